/- The statements' kit: numbers, configs, entries, bases, letters held against each other. (Printed by gensamek.py.) -/
import Derived.Test.YtippdjaakcgeoaaLeM
import Derived.Test.YtippdjaakcgeoaaKitA
import Derived.Deep.DeepCutAuto
namespace Go.Proofs.Ytippdjaakcgeoaa
open Go Go.RowKit
set_option linter.unusedVariables false
set_option linter.unusedSimpArgs false
def SameIR (w : World) (xs ys : List Int) (i : Value) (wr : World) : Prop := ∃ k : Nat, i = .int .i64 k ∧ k ≤ xs.length ∧ xs.take k = ys.take k ∧ Nw w wr
set_option maxRecDepth 100000 in
theorem same_ints (w : World) (F1 F2 : Nat → Prop) (A1 A2 : Option Addr) (c1 c2 : Nat) (xs ys : List Int) (h1 : Sl w F1 A1 (intsC xs)) (h2 : Sl w F2 A2 (intsC ys)) (hm1 : xs.length ≤ 1000000000000) :
    Calls Try.prog 102 #[.slice A1 xs.length c1, .slice A2 ys.length c2] w fun e w' => e = .returned (.bool (decide (xs = ys))) ∧ Nw w w' := by
  by_cases hl : xs.length = ys.length
  · have hlen : ((xs.length : Int) != (ys.length : Int)) = false := by simp [hl]
    have HL := Lib.hid hl
    clear hl
    go_enter Try.func102, Try.ntmps102
    go_wp2
    go_loopw [5] (fun i wr => SameIR w xs ys i wr) (fun i _ => xs.length - (intOf i).toNat)
    case atStart => exact ⟨0, rfl, Nat.zero_le _, rfl, Fr.refl _ _⟩
    case round =>
      obtain ⟨k, rfl, hk, ht, hq⟩ := hrel
      have HT := Lib.hid ht
      clear ht
      by_cases hlt : k < xs.length
      · have hlt2 : k < ys.length := by have := HL.out; omega
        obtain ⟨b1, o1, rfl, _, hc1⟩ := (h1.fr hq (fun _ _ h => h)).get hlt
        obtain ⟨b2, o2, rfl, _, hc2⟩ := (h2.fr hq (fun _ _ h => h)).get hlt2
        have hi1 : (k : Int) < (xs.length : Int) := by omega
        have hi2 : (k : Int) < (ys.length : Int) := by omega
        go_wp2
        go_quiet (fail)
        by_cases heq : (xs[k] != ys[k]) = false
        rotate_left
        · have hne : (xs[k] != ys[k]) = true := by simpa using heq
          clear heq
          go_wp2
          go_ret
          refine ⟨ret_eq (congrArg Value.bool (decide_eq_false ?_).symm), hq.drewN _⟩
          rintro rfl
          simp at hne
        · go_wp2
          go_roundw
          case rel =>
            refine ⟨k + 1, by go_num, by omega, ?_, hq.drewN _⟩
            rw [List.take_succ_eq_append_getElem hlt, List.take_succ_eq_append_getElem hlt2, HT.out]
            congr 2
            simpa using heq
          case measure => simp [intOf]; omega
      · go_wp2
        go_ret
        have hx : xs = ys := by
          have := HT.out
          rwa [List.take_of_length_le (by omega), List.take_of_length_le (by have := HL.out; omega)] at this
        exact ⟨ret_eq (congrArg Value.bool (decide_eq_true hx).symm), hq⟩
  · have hlen : ((xs.length : Int) != (ys.length : Int)) = true := by simp; omega
    go_enter Try.func102, Try.ntmps102
    go_wp2
    go_ret
    exact ⟨ret_eq (congrArg Value.bool (decide_eq_false fun h => hl (by rw [h])).symm), Fr.refl _ _⟩
theorem cfg_eq (x y : CfgM) : decide (x.x = y.x) = (decide (x.v.l = y.v.l) && (decide (x.o.l = y.o.l) && (decide (x.l.l = y.l.l) && decide (x.w.l = y.w.l)))) := by
  rw [Bool.eq_iff_iff]
  simp only [decide_eq_true_eq, Bool.and_eq_true, Cfg.mk.injEq]
theorem ent_eq (x y : EntM) : decide (x.x = y.x) = (decide (x.term = y.term) && (decide (x.kind = y.kind) && (decide (x.cmd.l = y.cmd.l) && decide (x.cfg.x = y.cfg.x)))) := by
  rw [Bool.eq_iff_iff]
  simp only [decide_eq_true_eq, Bool.and_eq_true, Ent.mk.injEq]
theorem bas_eq (x y : BasM) : decide (x.x = y.x) = (decide (x.index = y.index) && (decide (x.term = y.term) && decide (x.cfg.x = y.cfg.x))) := by
  rw [Bool.eq_iff_iff]
  simp only [decide_eq_true_eq, Bool.and_eq_true, Bas.mk.injEq]
set_option maxRecDepth 100000 in
set_option maxHeartbeats 4000000 in
theorem same_cfg (w : World) (F1 F2 : Nat → Prop) (x y : CfgM) (hx : CfgIn w F1 x) (hy : CfgIn w F2 y) (hz : CfgSz x) :
    Calls Try.prog 94 #[.agg (cfgA x), .agg (cfgA y)] w fun e w' => e = .returned (.bool (decide (x.x = y.x))) ∧ Nw w w' := by
  rw [cfg_eq]
  obtain ⟨W0, hW0⟩ : ∃ W, W = w.alloc (.cells #[.slice x.v.a x.v.l.length x.v.c, .slice x.o.a x.o.l.length x.o.c, .slice x.l.a x.l.l.length x.l.c, .slice x.w.a x.w.l.length x.w.c] 35) := ⟨_, rfl⟩
  have p0 : Nw w W0 := by rw [hW0]; exact (Fr.refl (fun _ => False) _).alloc _
  have b0 : Blk W0 w.heap.size 35 #[.slice x.v.a x.v.l.length x.v.c, .slice x.o.a x.o.l.length x.o.c, .slice x.l.a x.l.l.length x.l.c, .slice x.w.a x.w.l.length x.w.c] := by rw [hW0]; exact Blk.new _ _ _
  have hz1 : W0.heap.size = w.heap.size + 1 := by rw [hW0]; simp
  obtain ⟨W1, hW1⟩ : ∃ W, W = W0.alloc (.cells #[.slice y.v.a y.v.l.length y.v.c, .slice y.o.a y.o.l.length y.o.c, .slice y.l.a y.l.l.length y.l.c, .slice y.w.a y.w.l.length y.w.c] 35) := ⟨_, rfl⟩
  have p1 : Nw W0 W1 := by rw [hW1]; exact (Fr.refl (fun _ => False) _).alloc _
  have b1 : Blk W1 (w.heap.size + 1) 35 #[.slice y.v.a y.v.l.length y.v.c, .slice y.o.a y.o.l.length y.o.c, .slice y.l.a y.l.l.length y.l.c, .slice y.w.a y.w.l.length y.w.c] := by rw [hW1, ← hz1]; exact Blk.new _ _ _
  have Q0 : Nw w W1 := p0.tr p1
  have b0 := b0.fr p1 (fun h => h)
  have z1 : ∀ m : Later W1, Calls Try.prog 102 #[.slice x.v.a x.v.l.length x.v.c, .slice y.v.a y.v.l.length y.v.c] m.at_ fun e w' => e = .returned (.bool (decide (x.v.l = y.v.l))) ∧ Nw m.at_ w' := fun m => by
    have f := Q0.tr m.nw
    exact same_ints _ F1 F2 _ _ _ _ _ _ (hx.v.sl.fr f (fun _ _ h => h)) (hy.v.sl.fr f (fun _ _ h => h)) (by have := hz.v; omega)
  obtain ⟨d1, e1⟩ : ∃ d, (decide (x.v.l = y.v.l)) = d := ⟨_, rfl⟩
  simp only [e1] at z1 ⊢
  have z2 : ∀ m : Later W1, Calls Try.prog 102 #[.slice x.o.a x.o.l.length x.o.c, .slice y.o.a y.o.l.length y.o.c] m.at_ fun e w' => e = .returned (.bool (decide (x.o.l = y.o.l))) ∧ Nw m.at_ w' := fun m => by
    have f := Q0.tr m.nw
    exact same_ints _ F1 F2 _ _ _ _ _ _ (hx.o.sl.fr f (fun _ _ h => h)) (hy.o.sl.fr f (fun _ _ h => h)) (by have := hz.o; omega)
  obtain ⟨d2, e2⟩ : ∃ d, (decide (x.o.l = y.o.l)) = d := ⟨_, rfl⟩
  simp only [e2] at z2 ⊢
  have z3 : ∀ m : Later W1, Calls Try.prog 102 #[.slice x.l.a x.l.l.length x.l.c, .slice y.l.a y.l.l.length y.l.c] m.at_ fun e w' => e = .returned (.bool (decide (x.l.l = y.l.l))) ∧ Nw m.at_ w' := fun m => by
    have f := Q0.tr m.nw
    exact same_ints _ F1 F2 _ _ _ _ _ _ (hx.l.sl.fr f (fun _ _ h => h)) (hy.l.sl.fr f (fun _ _ h => h)) (by have := hz.l; omega)
  obtain ⟨d3, e3⟩ : ∃ d, (decide (x.l.l = y.l.l)) = d := ⟨_, rfl⟩
  simp only [e3] at z3 ⊢
  have z4 : ∀ m : Later W1, Calls Try.prog 102 #[.slice x.w.a x.w.l.length x.w.c, .slice y.w.a y.w.l.length y.w.c] m.at_ fun e w' => e = .returned (.bool (decide (x.w.l = y.w.l))) ∧ Nw m.at_ w' := fun m => by
    have f := Q0.tr m.nw
    exact same_ints _ F1 F2 _ _ _ _ _ _ (hx.w.sl.fr f (fun _ _ h => h)) (hy.w.sl.fr f (fun _ _ h => h)) (by have := hz.w; omega)
  obtain ⟨d4, e4⟩ : ∃ d, (decide (x.w.l = y.w.l)) = d := ⟨_, rfl⟩
  simp only [e4] at z4 ⊢
  have hS : ∀ w1, Nw W1 w1 → w1.cell? ⟨w.heap.size, 0, none⟩ = some (.slice x.v.a x.v.l.length x.v.c) ∧ w1.cell? ⟨w.heap.size, 1, none⟩ = some (.slice x.o.a x.o.l.length x.o.c) ∧ w1.cell? ⟨w.heap.size, 2, none⟩ = some (.slice x.l.a x.l.l.length x.l.c) ∧ w1.cell? ⟨w.heap.size, 3, none⟩ = some (.slice x.w.a x.w.l.length x.w.c) ∧ w1.cell? ⟨(w.heap.size + 1), 0, none⟩ = some (.slice y.v.a y.v.l.length y.v.c) ∧ w1.cell? ⟨(w.heap.size + 1), 1, none⟩ = some (.slice y.o.a y.o.l.length y.o.c) ∧ w1.cell? ⟨(w.heap.size + 1), 2, none⟩ = some (.slice y.l.a y.l.l.length y.l.c) ∧ w1.cell? ⟨(w.heap.size + 1), 3, none⟩ = some (.slice y.w.a y.w.l.length y.w.c) := fun w1 f => by
    have a0 := b0.fr f (fun h => h)
    have a1 := b1.fr f (fun h => h)
    exact ⟨by simpa using a0.cell 0, by simpa using a0.cell 1, by simpa using a0.cell 2, by simpa using a0.cell 3, by simpa using a1.cell 0, by simpa using a1.cell 1, by simpa using a1.cell 2, by simpa using a1.cell 3⟩
  have HW0 := Lib.hid hW0
  have HW1 := Lib.hid hW1
  clear hW0 b0 hW1 b1 e1 e2 e3 e4
  cases d1 with
  | false =>
    go_enter Try.func94, Try.ntmps94
    go_upto_region 1 with (fail)
    rw [← HW0.out, ← HW1.out]
    obtain ⟨k0_0_0, k0_0_1, k0_0_2, k0_0_3, k0_1_0, k0_1_1, k0_1_2, k0_1_3⟩ := hS W1 (Fr.refl _ _)
    go_wp2_with fail
    refine (z1 ⟨_, (Fr.refl (fun _ => False) W1)⟩).mono ?_
    rintro e v1 ⟨rfl, r1⟩
    have Q1 : Nw W1 v1 := (Fr.refl (fun _ => False) W1).tr r1
    obtain ⟨k1_0_0, k1_0_1, k1_0_2, k1_0_3, k1_1_0, k1_1_1, k1_1_2, k1_1_3⟩ := hS v1 Q1
    go_wp2_with fail
    go_ret
    exact ⟨rfl, Q0.tr Q1⟩
  | true =>
  cases d2 with
  | false =>
    go_enter Try.func94, Try.ntmps94
    go_upto_region 1 with (fail)
    rw [← HW0.out, ← HW1.out]
    obtain ⟨k0_0_0, k0_0_1, k0_0_2, k0_0_3, k0_1_0, k0_1_1, k0_1_2, k0_1_3⟩ := hS W1 (Fr.refl _ _)
    go_wp2_with fail
    refine (z1 ⟨_, (Fr.refl (fun _ => False) W1)⟩).mono ?_
    rintro e v1 ⟨rfl, r1⟩
    have Q1 : Nw W1 v1 := (Fr.refl (fun _ => False) W1).tr r1
    obtain ⟨k1_0_0, k1_0_1, k1_0_2, k1_0_3, k1_1_0, k1_1_1, k1_1_2, k1_1_3⟩ := hS v1 Q1
    go_wp2_with fail
    refine (z2 ⟨_, Q1⟩).mono ?_
    rintro e v2 ⟨rfl, r2⟩
    have Q2 : Nw W1 v2 := Q1.tr r2
    obtain ⟨k2_0_0, k2_0_1, k2_0_2, k2_0_3, k2_1_0, k2_1_1, k2_1_2, k2_1_3⟩ := hS v2 Q2
    go_wp2_with fail
    go_ret
    exact ⟨rfl, Q0.tr Q2⟩
  | true =>
  cases d3 with
  | false =>
    go_enter Try.func94, Try.ntmps94
    go_upto_region 1 with (fail)
    rw [← HW0.out, ← HW1.out]
    obtain ⟨k0_0_0, k0_0_1, k0_0_2, k0_0_3, k0_1_0, k0_1_1, k0_1_2, k0_1_3⟩ := hS W1 (Fr.refl _ _)
    go_wp2_with fail
    refine (z1 ⟨_, (Fr.refl (fun _ => False) W1)⟩).mono ?_
    rintro e v1 ⟨rfl, r1⟩
    have Q1 : Nw W1 v1 := (Fr.refl (fun _ => False) W1).tr r1
    obtain ⟨k1_0_0, k1_0_1, k1_0_2, k1_0_3, k1_1_0, k1_1_1, k1_1_2, k1_1_3⟩ := hS v1 Q1
    go_wp2_with fail
    refine (z2 ⟨_, Q1⟩).mono ?_
    rintro e v2 ⟨rfl, r2⟩
    have Q2 : Nw W1 v2 := Q1.tr r2
    obtain ⟨k2_0_0, k2_0_1, k2_0_2, k2_0_3, k2_1_0, k2_1_1, k2_1_2, k2_1_3⟩ := hS v2 Q2
    go_wp2_with fail
    refine (z3 ⟨_, Q2⟩).mono ?_
    rintro e v3 ⟨rfl, r3⟩
    have Q3 : Nw W1 v3 := Q2.tr r3
    obtain ⟨k3_0_0, k3_0_1, k3_0_2, k3_0_3, k3_1_0, k3_1_1, k3_1_2, k3_1_3⟩ := hS v3 Q3
    go_wp2_with fail
    go_ret
    exact ⟨rfl, Q0.tr Q3⟩
  | true =>
  cases d4 with
  | false =>
    go_enter Try.func94, Try.ntmps94
    go_upto_region 1 with (fail)
    rw [← HW0.out, ← HW1.out]
    obtain ⟨k0_0_0, k0_0_1, k0_0_2, k0_0_3, k0_1_0, k0_1_1, k0_1_2, k0_1_3⟩ := hS W1 (Fr.refl _ _)
    go_wp2_with fail
    refine (z1 ⟨_, (Fr.refl (fun _ => False) W1)⟩).mono ?_
    rintro e v1 ⟨rfl, r1⟩
    have Q1 : Nw W1 v1 := (Fr.refl (fun _ => False) W1).tr r1
    obtain ⟨k1_0_0, k1_0_1, k1_0_2, k1_0_3, k1_1_0, k1_1_1, k1_1_2, k1_1_3⟩ := hS v1 Q1
    go_wp2_with fail
    refine (z2 ⟨_, Q1⟩).mono ?_
    rintro e v2 ⟨rfl, r2⟩
    have Q2 : Nw W1 v2 := Q1.tr r2
    obtain ⟨k2_0_0, k2_0_1, k2_0_2, k2_0_3, k2_1_0, k2_1_1, k2_1_2, k2_1_3⟩ := hS v2 Q2
    go_wp2_with fail
    refine (z3 ⟨_, Q2⟩).mono ?_
    rintro e v3 ⟨rfl, r3⟩
    have Q3 : Nw W1 v3 := Q2.tr r3
    obtain ⟨k3_0_0, k3_0_1, k3_0_2, k3_0_3, k3_1_0, k3_1_1, k3_1_2, k3_1_3⟩ := hS v3 Q3
    go_wp2_with fail
    refine (z4 ⟨_, Q3⟩).mono ?_
    rintro e v4 ⟨rfl, r4⟩
    have Q4 : Nw W1 v4 := Q3.tr r4
    obtain ⟨k4_0_0, k4_0_1, k4_0_2, k4_0_3, k4_1_0, k4_1_1, k4_1_2, k4_1_3⟩ := hS v4 Q4
    go_wp2_with fail
    go_ret
    exact ⟨rfl, Q0.tr Q4⟩
  | true =>
  go_enter Try.func94, Try.ntmps94
  go_upto_region 1 with (fail)
  rw [← HW0.out, ← HW1.out]
  obtain ⟨k0_0_0, k0_0_1, k0_0_2, k0_0_3, k0_1_0, k0_1_1, k0_1_2, k0_1_3⟩ := hS W1 (Fr.refl _ _)
  go_wp2_with fail
  refine (z1 ⟨_, (Fr.refl (fun _ => False) W1)⟩).mono ?_
  rintro e v1 ⟨rfl, r1⟩
  have Q1 : Nw W1 v1 := (Fr.refl (fun _ => False) W1).tr r1
  obtain ⟨k1_0_0, k1_0_1, k1_0_2, k1_0_3, k1_1_0, k1_1_1, k1_1_2, k1_1_3⟩ := hS v1 Q1
  go_wp2_with fail
  refine (z2 ⟨_, Q1⟩).mono ?_
  rintro e v2 ⟨rfl, r2⟩
  have Q2 : Nw W1 v2 := Q1.tr r2
  obtain ⟨k2_0_0, k2_0_1, k2_0_2, k2_0_3, k2_1_0, k2_1_1, k2_1_2, k2_1_3⟩ := hS v2 Q2
  go_wp2_with fail
  refine (z3 ⟨_, Q2⟩).mono ?_
  rintro e v3 ⟨rfl, r3⟩
  have Q3 : Nw W1 v3 := Q2.tr r3
  obtain ⟨k3_0_0, k3_0_1, k3_0_2, k3_0_3, k3_1_0, k3_1_1, k3_1_2, k3_1_3⟩ := hS v3 Q3
  go_wp2_with fail
  refine (z4 ⟨_, Q3⟩).mono ?_
  rintro e v4 ⟨rfl, r4⟩
  have Q4 : Nw W1 v4 := Q3.tr r4
  obtain ⟨k4_0_0, k4_0_1, k4_0_2, k4_0_3, k4_1_0, k4_1_1, k4_1_2, k4_1_3⟩ := hS v4 Q4
  go_wp2_with fail
  go_ret
  exact ⟨rfl, Q0.tr Q4⟩
set_option maxRecDepth 100000 in
set_option maxHeartbeats 4000000 in
theorem same_ent (w : World) (F1 F2 : Nat → Prop) (x y : EntM) (hx : EntIn w F1 x) (hy : EntIn w F2 y) (hz : EntSz x) :
    Calls Try.prog 93 #[.agg (entA x), .agg (entA y)] w fun e w' => e = .returned (.bool (decide (x.x = y.x))) ∧ Nw w w' := by
  rw [ent_eq]
  obtain ⟨W0, hW0⟩ : ∃ W, W = w.alloc (.cells #[I64 x.term, U8V x.kind, .slice x.cmd.a x.cmd.l.length x.cmd.c, .slice x.cfg.v.a x.cfg.v.l.length x.cfg.v.c, .slice x.cfg.o.a x.cfg.o.l.length x.cfg.o.c, .slice x.cfg.l.a x.cfg.l.l.length x.cfg.l.c, .slice x.cfg.w.a x.cfg.w.l.length x.cfg.w.c] 60) := ⟨_, rfl⟩
  have p0 : Nw w W0 := by rw [hW0]; exact (Fr.refl (fun _ => False) _).alloc _
  have b0 : Blk W0 w.heap.size 60 #[I64 x.term, U8V x.kind, .slice x.cmd.a x.cmd.l.length x.cmd.c, .slice x.cfg.v.a x.cfg.v.l.length x.cfg.v.c, .slice x.cfg.o.a x.cfg.o.l.length x.cfg.o.c, .slice x.cfg.l.a x.cfg.l.l.length x.cfg.l.c, .slice x.cfg.w.a x.cfg.w.l.length x.cfg.w.c] := by rw [hW0]; exact Blk.new _ _ _
  have hz1 : W0.heap.size = w.heap.size + 1 := by rw [hW0]; simp
  obtain ⟨W1, hW1⟩ : ∃ W, W = W0.alloc (.cells #[I64 y.term, U8V y.kind, .slice y.cmd.a y.cmd.l.length y.cmd.c, .slice y.cfg.v.a y.cfg.v.l.length y.cfg.v.c, .slice y.cfg.o.a y.cfg.o.l.length y.cfg.o.c, .slice y.cfg.l.a y.cfg.l.l.length y.cfg.l.c, .slice y.cfg.w.a y.cfg.w.l.length y.cfg.w.c] 60) := ⟨_, rfl⟩
  have p1 : Nw W0 W1 := by rw [hW1]; exact (Fr.refl (fun _ => False) _).alloc _
  have b1 : Blk W1 (w.heap.size + 1) 60 #[I64 y.term, U8V y.kind, .slice y.cmd.a y.cmd.l.length y.cmd.c, .slice y.cfg.v.a y.cfg.v.l.length y.cfg.v.c, .slice y.cfg.o.a y.cfg.o.l.length y.cfg.o.c, .slice y.cfg.l.a y.cfg.l.l.length y.cfg.l.c, .slice y.cfg.w.a y.cfg.w.l.length y.cfg.w.c] := by rw [hW1, ← hz1]; exact Blk.new _ _ _
  have Q0 : Nw w W1 := p0.tr p1
  have b0 := b0.fr p1 (fun h => h)
  have z1 : (x.term == y.term) = (decide (x.term = y.term)) := rfl
  obtain ⟨d1, e1⟩ : ∃ d, (decide (x.term = y.term)) = d := ⟨_, rfl⟩
  simp only [e1] at z1 ⊢
  have z2 : (x.kind == y.kind) = (decide (x.kind = y.kind)) := rfl
  obtain ⟨d2, e2⟩ : ∃ d, (decide (x.kind = y.kind)) = d := ⟨_, rfl⟩
  simp only [e2] at z2 ⊢
  have z3 : ∀ m : Later W1, Calls Try.prog 26 #[.slice x.cmd.a x.cmd.l.length x.cmd.c, .slice y.cmd.a y.cmd.l.length y.cmd.c] m.at_ fun e w' => e = .returned (.bool (decide (x.cmd.l = y.cmd.l))) ∧ Nw m.at_ w' := fun m => by
    have f := Q0.tr m.nw
    exact (same_u8 _ F1 F2 _ _ _ _ _ _ (hx.cmd.sl.fr f (fun _ _ h => h)) (hy.cmd.sl.fr f (fun _ _ h => h)) (by have := hz.cmd; omega)).mono fun e w' h => ⟨h.1, h.2.fr _⟩
  obtain ⟨d3, e3⟩ : ∃ d, (decide (x.cmd.l = y.cmd.l)) = d := ⟨_, rfl⟩
  simp only [e3] at z3 ⊢
  have z4 : ∀ m : Later W1, Calls Try.prog 94 #[.agg #[.slice x.cfg.v.a x.cfg.v.l.length x.cfg.v.c, .slice x.cfg.o.a x.cfg.o.l.length x.cfg.o.c, .slice x.cfg.l.a x.cfg.l.l.length x.cfg.l.c, .slice x.cfg.w.a x.cfg.w.l.length x.cfg.w.c], .agg #[.slice y.cfg.v.a y.cfg.v.l.length y.cfg.v.c, .slice y.cfg.o.a y.cfg.o.l.length y.cfg.o.c, .slice y.cfg.l.a y.cfg.l.l.length y.cfg.l.c, .slice y.cfg.w.a y.cfg.w.l.length y.cfg.w.c]] m.at_ fun e w' => e = .returned (.bool (decide (x.cfg.x = y.cfg.x))) ∧ Nw m.at_ w' := fun m => by
    have f := Q0.tr m.nw
    exact same_cfg _ F1 F2 _ _ (hx.cfg.nw f) (hy.cfg.nw f) hz.cfg
  obtain ⟨d4, e4⟩ : ∃ d, (decide (x.cfg.x = y.cfg.x)) = d := ⟨_, rfl⟩
  simp only [e4] at z4 ⊢
  have hS : ∀ w1, Nw W1 w1 → w1.cell? ⟨w.heap.size, 0, none⟩ = some (I64 x.term) ∧ w1.cell? ⟨w.heap.size, 1, none⟩ = some (U8V x.kind) ∧ w1.cell? ⟨w.heap.size, 2, none⟩ = some (.slice x.cmd.a x.cmd.l.length x.cmd.c) ∧ w1.cell? ⟨w.heap.size, 3, none⟩ = some (.slice x.cfg.v.a x.cfg.v.l.length x.cfg.v.c) ∧ w1.cell? ⟨w.heap.size, 4, none⟩ = some (.slice x.cfg.o.a x.cfg.o.l.length x.cfg.o.c) ∧ w1.cell? ⟨w.heap.size, 5, none⟩ = some (.slice x.cfg.l.a x.cfg.l.l.length x.cfg.l.c) ∧ w1.cell? ⟨w.heap.size, 6, none⟩ = some (.slice x.cfg.w.a x.cfg.w.l.length x.cfg.w.c) ∧ w1.cell? ⟨(w.heap.size + 1), 0, none⟩ = some (I64 y.term) ∧ w1.cell? ⟨(w.heap.size + 1), 1, none⟩ = some (U8V y.kind) ∧ w1.cell? ⟨(w.heap.size + 1), 2, none⟩ = some (.slice y.cmd.a y.cmd.l.length y.cmd.c) ∧ w1.cell? ⟨(w.heap.size + 1), 3, none⟩ = some (.slice y.cfg.v.a y.cfg.v.l.length y.cfg.v.c) ∧ w1.cell? ⟨(w.heap.size + 1), 4, none⟩ = some (.slice y.cfg.o.a y.cfg.o.l.length y.cfg.o.c) ∧ w1.cell? ⟨(w.heap.size + 1), 5, none⟩ = some (.slice y.cfg.l.a y.cfg.l.l.length y.cfg.l.c) ∧ w1.cell? ⟨(w.heap.size + 1), 6, none⟩ = some (.slice y.cfg.w.a y.cfg.w.l.length y.cfg.w.c) := fun w1 f => by
    have a0 := b0.fr f (fun h => h)
    have a1 := b1.fr f (fun h => h)
    exact ⟨by simpa using a0.cell 0, by simpa using a0.cell 1, by simpa using a0.cell 2, by simpa using a0.cell 3, by simpa using a0.cell 4, by simpa using a0.cell 5, by simpa using a0.cell 6, by simpa using a1.cell 0, by simpa using a1.cell 1, by simpa using a1.cell 2, by simpa using a1.cell 3, by simpa using a1.cell 4, by simpa using a1.cell 5, by simpa using a1.cell 6⟩
  have HW0 := Lib.hid hW0
  have HW1 := Lib.hid hW1
  clear hW0 b0 hW1 b1 e1 e2 e3 e4
  cases d1 with
  | false =>
    go_enter Try.func93, Try.ntmps93
    go_upto_region 1 with (fail)
    rw [← HW0.out, ← HW1.out]
    obtain ⟨k0_0_0, k0_0_1, k0_0_2, k0_0_3, k0_0_4, k0_0_5, k0_0_6, k0_1_0, k0_1_1, k0_1_2, k0_1_3, k0_1_4, k0_1_5, k0_1_6⟩ := hS W1 (Fr.refl _ _)
    go_wp2_with fail
    go_ret
    exact ⟨rfl, Q0.tr (Fr.refl (fun _ => False) W1)⟩
  | true =>
  cases d2 with
  | false =>
    go_enter Try.func93, Try.ntmps93
    go_upto_region 1 with (fail)
    rw [← HW0.out, ← HW1.out]
    obtain ⟨k0_0_0, k0_0_1, k0_0_2, k0_0_3, k0_0_4, k0_0_5, k0_0_6, k0_1_0, k0_1_1, k0_1_2, k0_1_3, k0_1_4, k0_1_5, k0_1_6⟩ := hS W1 (Fr.refl _ _)
    go_wp2_with fail
    go_ret
    exact ⟨rfl, Q0.tr (Fr.refl (fun _ => False) W1)⟩
  | true =>
  cases d3 with
  | false =>
    go_enter Try.func93, Try.ntmps93
    go_upto_region 1 with (fail)
    rw [← HW0.out, ← HW1.out]
    obtain ⟨k0_0_0, k0_0_1, k0_0_2, k0_0_3, k0_0_4, k0_0_5, k0_0_6, k0_1_0, k0_1_1, k0_1_2, k0_1_3, k0_1_4, k0_1_5, k0_1_6⟩ := hS W1 (Fr.refl _ _)
    go_wp2_with fail
    refine (z3 ⟨_, (Fr.refl (fun _ => False) W1)⟩).mono ?_
    rintro e v1 ⟨rfl, r1⟩
    have Q1 : Nw W1 v1 := (Fr.refl (fun _ => False) W1).tr r1
    obtain ⟨k1_0_0, k1_0_1, k1_0_2, k1_0_3, k1_0_4, k1_0_5, k1_0_6, k1_1_0, k1_1_1, k1_1_2, k1_1_3, k1_1_4, k1_1_5, k1_1_6⟩ := hS v1 Q1
    go_wp2_with fail
    go_ret
    exact ⟨rfl, Q0.tr Q1⟩
  | true =>
  cases d4 with
  | false =>
    go_enter Try.func93, Try.ntmps93
    go_upto_region 1 with (fail)
    rw [← HW0.out, ← HW1.out]
    obtain ⟨k0_0_0, k0_0_1, k0_0_2, k0_0_3, k0_0_4, k0_0_5, k0_0_6, k0_1_0, k0_1_1, k0_1_2, k0_1_3, k0_1_4, k0_1_5, k0_1_6⟩ := hS W1 (Fr.refl _ _)
    go_wp2_with fail
    refine (z3 ⟨_, (Fr.refl (fun _ => False) W1)⟩).mono ?_
    rintro e v1 ⟨rfl, r1⟩
    have Q1 : Nw W1 v1 := (Fr.refl (fun _ => False) W1).tr r1
    obtain ⟨k1_0_0, k1_0_1, k1_0_2, k1_0_3, k1_0_4, k1_0_5, k1_0_6, k1_1_0, k1_1_1, k1_1_2, k1_1_3, k1_1_4, k1_1_5, k1_1_6⟩ := hS v1 Q1
    go_wp2_with fail
    refine (z4 ⟨_, Q1⟩).mono ?_
    rintro e v2 ⟨rfl, r2⟩
    have Q2 : Nw W1 v2 := Q1.tr r2
    obtain ⟨k2_0_0, k2_0_1, k2_0_2, k2_0_3, k2_0_4, k2_0_5, k2_0_6, k2_1_0, k2_1_1, k2_1_2, k2_1_3, k2_1_4, k2_1_5, k2_1_6⟩ := hS v2 Q2
    go_wp2_with fail
    go_ret
    exact ⟨rfl, Q0.tr Q2⟩
  | true =>
  go_enter Try.func93, Try.ntmps93
  go_upto_region 1 with (fail)
  rw [← HW0.out, ← HW1.out]
  obtain ⟨k0_0_0, k0_0_1, k0_0_2, k0_0_3, k0_0_4, k0_0_5, k0_0_6, k0_1_0, k0_1_1, k0_1_2, k0_1_3, k0_1_4, k0_1_5, k0_1_6⟩ := hS W1 (Fr.refl _ _)
  go_wp2_with fail
  refine (z3 ⟨_, (Fr.refl (fun _ => False) W1)⟩).mono ?_
  rintro e v1 ⟨rfl, r1⟩
  have Q1 : Nw W1 v1 := (Fr.refl (fun _ => False) W1).tr r1
  obtain ⟨k1_0_0, k1_0_1, k1_0_2, k1_0_3, k1_0_4, k1_0_5, k1_0_6, k1_1_0, k1_1_1, k1_1_2, k1_1_3, k1_1_4, k1_1_5, k1_1_6⟩ := hS v1 Q1
  go_wp2_with fail
  refine (z4 ⟨_, Q1⟩).mono ?_
  rintro e v2 ⟨rfl, r2⟩
  have Q2 : Nw W1 v2 := Q1.tr r2
  obtain ⟨k2_0_0, k2_0_1, k2_0_2, k2_0_3, k2_0_4, k2_0_5, k2_0_6, k2_1_0, k2_1_1, k2_1_2, k2_1_3, k2_1_4, k2_1_5, k2_1_6⟩ := hS v2 Q2
  go_wp2_with fail
  go_ret
  exact ⟨rfl, Q0.tr Q2⟩
set_option maxRecDepth 100000 in
set_option maxHeartbeats 4000000 in
theorem same_bas (w : World) (F1 F2 : Nat → Prop) (x y : BasM) (hx : CfgIn w F1 x.cfg) (hy : CfgIn w F2 y.cfg) (hz : CfgSz x.cfg) :
    Calls Try.prog 69 #[.agg (basA x), .agg (basA y)] w fun e w' => e = .returned (.bool (decide (x.x = y.x))) ∧ Nw w w' := by
  rw [bas_eq]
  obtain ⟨W0, hW0⟩ : ∃ W, W = w.alloc (.cells #[I64 x.index, I64 x.term, .slice x.cfg.v.a x.cfg.v.l.length x.cfg.v.c, .slice x.cfg.o.a x.cfg.o.l.length x.cfg.o.c, .slice x.cfg.l.a x.cfg.l.l.length x.cfg.l.c, .slice x.cfg.w.a x.cfg.w.l.length x.cfg.w.c] 37) := ⟨_, rfl⟩
  have p0 : Nw w W0 := by rw [hW0]; exact (Fr.refl (fun _ => False) _).alloc _
  have b0 : Blk W0 w.heap.size 37 #[I64 x.index, I64 x.term, .slice x.cfg.v.a x.cfg.v.l.length x.cfg.v.c, .slice x.cfg.o.a x.cfg.o.l.length x.cfg.o.c, .slice x.cfg.l.a x.cfg.l.l.length x.cfg.l.c, .slice x.cfg.w.a x.cfg.w.l.length x.cfg.w.c] := by rw [hW0]; exact Blk.new _ _ _
  have hz1 : W0.heap.size = w.heap.size + 1 := by rw [hW0]; simp
  obtain ⟨W1, hW1⟩ : ∃ W, W = W0.alloc (.cells #[I64 y.index, I64 y.term, .slice y.cfg.v.a y.cfg.v.l.length y.cfg.v.c, .slice y.cfg.o.a y.cfg.o.l.length y.cfg.o.c, .slice y.cfg.l.a y.cfg.l.l.length y.cfg.l.c, .slice y.cfg.w.a y.cfg.w.l.length y.cfg.w.c] 37) := ⟨_, rfl⟩
  have p1 : Nw W0 W1 := by rw [hW1]; exact (Fr.refl (fun _ => False) _).alloc _
  have b1 : Blk W1 (w.heap.size + 1) 37 #[I64 y.index, I64 y.term, .slice y.cfg.v.a y.cfg.v.l.length y.cfg.v.c, .slice y.cfg.o.a y.cfg.o.l.length y.cfg.o.c, .slice y.cfg.l.a y.cfg.l.l.length y.cfg.l.c, .slice y.cfg.w.a y.cfg.w.l.length y.cfg.w.c] := by rw [hW1, ← hz1]; exact Blk.new _ _ _
  have Q0 : Nw w W1 := p0.tr p1
  have b0 := b0.fr p1 (fun h => h)
  have z1 : (x.index == y.index) = (decide (x.index = y.index)) := rfl
  obtain ⟨d1, e1⟩ : ∃ d, (decide (x.index = y.index)) = d := ⟨_, rfl⟩
  simp only [e1] at z1 ⊢
  have z2 : (x.term == y.term) = (decide (x.term = y.term)) := rfl
  obtain ⟨d2, e2⟩ : ∃ d, (decide (x.term = y.term)) = d := ⟨_, rfl⟩
  simp only [e2] at z2 ⊢
  have z3 : ∀ m : Later W1, Calls Try.prog 94 #[.agg #[.slice x.cfg.v.a x.cfg.v.l.length x.cfg.v.c, .slice x.cfg.o.a x.cfg.o.l.length x.cfg.o.c, .slice x.cfg.l.a x.cfg.l.l.length x.cfg.l.c, .slice x.cfg.w.a x.cfg.w.l.length x.cfg.w.c], .agg #[.slice y.cfg.v.a y.cfg.v.l.length y.cfg.v.c, .slice y.cfg.o.a y.cfg.o.l.length y.cfg.o.c, .slice y.cfg.l.a y.cfg.l.l.length y.cfg.l.c, .slice y.cfg.w.a y.cfg.w.l.length y.cfg.w.c]] m.at_ fun e w' => e = .returned (.bool (decide (x.cfg.x = y.cfg.x))) ∧ Nw m.at_ w' := fun m => by
    have f := Q0.tr m.nw
    exact same_cfg _ F1 F2 _ _ (hx.nw f) (hy.nw f) hz
  obtain ⟨d3, e3⟩ : ∃ d, (decide (x.cfg.x = y.cfg.x)) = d := ⟨_, rfl⟩
  simp only [e3] at z3 ⊢
  have hS : ∀ w1, Nw W1 w1 → w1.cell? ⟨w.heap.size, 0, none⟩ = some (I64 x.index) ∧ w1.cell? ⟨w.heap.size, 1, none⟩ = some (I64 x.term) ∧ w1.cell? ⟨w.heap.size, 2, none⟩ = some (.slice x.cfg.v.a x.cfg.v.l.length x.cfg.v.c) ∧ w1.cell? ⟨w.heap.size, 3, none⟩ = some (.slice x.cfg.o.a x.cfg.o.l.length x.cfg.o.c) ∧ w1.cell? ⟨w.heap.size, 4, none⟩ = some (.slice x.cfg.l.a x.cfg.l.l.length x.cfg.l.c) ∧ w1.cell? ⟨w.heap.size, 5, none⟩ = some (.slice x.cfg.w.a x.cfg.w.l.length x.cfg.w.c) ∧ w1.cell? ⟨(w.heap.size + 1), 0, none⟩ = some (I64 y.index) ∧ w1.cell? ⟨(w.heap.size + 1), 1, none⟩ = some (I64 y.term) ∧ w1.cell? ⟨(w.heap.size + 1), 2, none⟩ = some (.slice y.cfg.v.a y.cfg.v.l.length y.cfg.v.c) ∧ w1.cell? ⟨(w.heap.size + 1), 3, none⟩ = some (.slice y.cfg.o.a y.cfg.o.l.length y.cfg.o.c) ∧ w1.cell? ⟨(w.heap.size + 1), 4, none⟩ = some (.slice y.cfg.l.a y.cfg.l.l.length y.cfg.l.c) ∧ w1.cell? ⟨(w.heap.size + 1), 5, none⟩ = some (.slice y.cfg.w.a y.cfg.w.l.length y.cfg.w.c) := fun w1 f => by
    have a0 := b0.fr f (fun h => h)
    have a1 := b1.fr f (fun h => h)
    exact ⟨by simpa using a0.cell 0, by simpa using a0.cell 1, by simpa using a0.cell 2, by simpa using a0.cell 3, by simpa using a0.cell 4, by simpa using a0.cell 5, by simpa using a1.cell 0, by simpa using a1.cell 1, by simpa using a1.cell 2, by simpa using a1.cell 3, by simpa using a1.cell 4, by simpa using a1.cell 5⟩
  have HW0 := Lib.hid hW0
  have HW1 := Lib.hid hW1
  clear hW0 b0 hW1 b1 e1 e2 e3
  cases d1 with
  | false =>
    go_enter Try.func69, Try.ntmps69
    go_upto_region 1 with (fail)
    rw [← HW0.out, ← HW1.out]
    obtain ⟨k0_0_0, k0_0_1, k0_0_2, k0_0_3, k0_0_4, k0_0_5, k0_1_0, k0_1_1, k0_1_2, k0_1_3, k0_1_4, k0_1_5⟩ := hS W1 (Fr.refl _ _)
    go_wp2_with fail
    go_ret
    exact ⟨rfl, Q0.tr (Fr.refl (fun _ => False) W1)⟩
  | true =>
  cases d2 with
  | false =>
    go_enter Try.func69, Try.ntmps69
    go_upto_region 1 with (fail)
    rw [← HW0.out, ← HW1.out]
    obtain ⟨k0_0_0, k0_0_1, k0_0_2, k0_0_3, k0_0_4, k0_0_5, k0_1_0, k0_1_1, k0_1_2, k0_1_3, k0_1_4, k0_1_5⟩ := hS W1 (Fr.refl _ _)
    go_wp2_with fail
    go_ret
    exact ⟨rfl, Q0.tr (Fr.refl (fun _ => False) W1)⟩
  | true =>
  cases d3 with
  | false =>
    go_enter Try.func69, Try.ntmps69
    go_upto_region 1 with (fail)
    rw [← HW0.out, ← HW1.out]
    obtain ⟨k0_0_0, k0_0_1, k0_0_2, k0_0_3, k0_0_4, k0_0_5, k0_1_0, k0_1_1, k0_1_2, k0_1_3, k0_1_4, k0_1_5⟩ := hS W1 (Fr.refl _ _)
    go_wp2_with fail
    refine (z3 ⟨_, (Fr.refl (fun _ => False) W1)⟩).mono ?_
    rintro e v1 ⟨rfl, r1⟩
    have Q1 : Nw W1 v1 := (Fr.refl (fun _ => False) W1).tr r1
    obtain ⟨k1_0_0, k1_0_1, k1_0_2, k1_0_3, k1_0_4, k1_0_5, k1_1_0, k1_1_1, k1_1_2, k1_1_3, k1_1_4, k1_1_5⟩ := hS v1 Q1
    go_wp2_with fail
    go_ret
    exact ⟨rfl, Q0.tr Q1⟩
  | true =>
  go_enter Try.func69, Try.ntmps69
  go_upto_region 1 with (fail)
  rw [← HW0.out, ← HW1.out]
  obtain ⟨k0_0_0, k0_0_1, k0_0_2, k0_0_3, k0_0_4, k0_0_5, k0_1_0, k0_1_1, k0_1_2, k0_1_3, k0_1_4, k0_1_5⟩ := hS W1 (Fr.refl _ _)
  go_wp2_with fail
  refine (z3 ⟨_, (Fr.refl (fun _ => False) W1)⟩).mono ?_
  rintro e v1 ⟨rfl, r1⟩
  have Q1 : Nw W1 v1 := (Fr.refl (fun _ => False) W1).tr r1
  obtain ⟨k1_0_0, k1_0_1, k1_0_2, k1_0_3, k1_0_4, k1_0_5, k1_1_0, k1_1_1, k1_1_2, k1_1_3, k1_1_4, k1_1_5⟩ := hS v1 Q1
  go_wp2_with fail
  go_ret
  exact ⟨rfl, Q0.tr Q1⟩
end Go.Proofs.Ytippdjaakcgeoaa
