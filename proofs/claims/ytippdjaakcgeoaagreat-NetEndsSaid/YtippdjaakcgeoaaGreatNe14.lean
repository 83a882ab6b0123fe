/- Lemmas of the walks: SmA, SmB, SmC, SmD, RaA. (Laid together by shake.py.) -/
import Derived.Deep.DeepCutAuto
import Derived.Test.YtippdjaakcgeoaaGreatNe02
import Derived.Test.YtippdjaakcgeoaaGreatNe04
import Derived.Test.YtippdjaakcgeoaaGreatNe13
set_option linter.unusedVariables false
set_option linter.unusedSimpArgs false
namespace Go.Proofs.YtippdjaakcgeoaaGreat
open Go Go.RowKit
set_option linter.unusedVariables false
set_option linter.unusedSimpArgs false
def SameIR (w : World) (xs ys : List Int) (i : Value) (wr : World) : Prop := ∃ k : Nat, i = .int .i64 k ∧ k ≤ xs.length ∧ xs.take k = ys.take k ∧ Nw w wr
set_option maxRecDepth 100000 in
theorem same_ints (w : World) (F1 F2 : Nat → Prop) (A1 A2 : Option Addr) (c1 c2 : Nat) (xs ys : List Int) (h1 : Sl w F1 A1 (intsC xs)) (h2 : Sl w F2 A2 (intsC ys)) (hm1 : xs.length ≤ 1000000000000) :
    Calls Tryz.prog 209 #[.slice A1 xs.length c1, .slice A2 ys.length c2] w fun e w' => e = .returned (.bool (decide (xs = ys))) ∧ Nw w w' := by
  by_cases hl : xs.length = ys.length
  · have hlen : ((xs.length : Int) != (ys.length : Int)) = false := by simp [hl]
    have HL := Lib.hid hl
    clear hl
    go_enter Tryz.func209, Tryz.ntmps209
    go_wp2
    go_loopw [5] (fun i wr => SameIR w xs ys i wr) (fun i _ => xs.length - (intOf i).toNat)
    case atStart => exact ⟨0, rfl, Nat.zero_le _, rfl, Fr.refl _ _⟩
    case round =>
      obtain ⟨k, rfl, hk, ht, hq⟩ := hrel
      have HT := Lib.hid ht
      clear ht
      by_cases hlt : k < xs.length
      · have hlt2 : k < ys.length := by have := HL.out; omega
        obtain ⟨b1, o1, rfl, _, hc1⟩ := (h1.fr hq (fun _ _ h => h)).get hlt
        obtain ⟨b2, o2, rfl, _, hc2⟩ := (h2.fr hq (fun _ _ h => h)).get hlt2
        have hi1 : (k : Int) < (xs.length : Int) := by omega
        have hi2 : (k : Int) < (ys.length : Int) := by omega
        go_wp2
        go_quiet (fail)
        by_cases heq : (xs[k] != ys[k]) = false
        rotate_left
        · have hne : (xs[k] != ys[k]) = true := by simpa using heq
          clear heq
          go_wp2
          go_ret
          refine ⟨ret_eq (congrArg Value.bool (decide_eq_false ?_).symm), hq.drewN _⟩
          rintro rfl
          simp at hne
        · go_wp2
          go_roundw
          case rel =>
            refine ⟨k + 1, by go_num, by omega, ?_, hq.drewN _⟩
            rw [List.take_succ_eq_append_getElem hlt, List.take_succ_eq_append_getElem hlt2, HT.out]
            congr 2
            simpa using heq
          case measure => simp [intOf]; omega
      · go_wp2
        go_ret
        have hx : xs = ys := by
          have := HT.out
          rwa [List.take_of_length_le (by omega), List.take_of_length_le (by have := HL.out; omega)] at this
        exact ⟨ret_eq (congrArg Value.bool (decide_eq_true hx).symm), hq⟩
  · have hlen : ((xs.length : Int) != (ys.length : Int)) = true := by simp; omega
    go_enter Tryz.func209, Tryz.ntmps209
    go_wp2
    go_ret
    exact ⟨ret_eq (congrArg Value.bool (decide_eq_false fun h => hl (by rw [h])).symm), Fr.refl _ _⟩
theorem cfg_eq (x y : CfgM) : decide (x.x = y.x) = (decide (x.v.l = y.v.l) && (decide (x.o.l = y.o.l) && (decide (x.l.l = y.l.l) && decide (x.w.l = y.w.l)))) := by
  rw [Bool.eq_iff_iff]
  simp only [decide_eq_true_eq, Bool.and_eq_true, Cfg.mk.injEq]
theorem ent_eq (x y : EntM) : decide (x.x = y.x) = (decide (x.term = y.term) && (decide (x.kind = y.kind) && (decide (x.cmd.l = y.cmd.l) && decide (x.cfg.x = y.cfg.x)))) := by
  rw [Bool.eq_iff_iff]
  simp only [decide_eq_true_eq, Bool.and_eq_true, Ent.mk.injEq]
theorem bas_eq (x y : BasM) : decide (x.x = y.x) = (decide (x.index = y.index) && (decide (x.term = y.term) && decide (x.cfg.x = y.cfg.x))) := by
  rw [Bool.eq_iff_iff]
  simp only [decide_eq_true_eq, Bool.and_eq_true, Bas.mk.injEq]
set_option maxRecDepth 100000 in
set_option maxHeartbeats 4000000 in
theorem same_cfg (w : World) (F1 F2 : Nat → Prop) (x y : CfgM) (hx : CfgIn w F1 x) (hy : CfgIn w F2 y) (hz : CfgSz x) :
    Calls Tryz.prog 159 #[.agg (cfgA x), .agg (cfgA y)] w fun e w' => e = .returned (.bool (decide (x.x = y.x))) ∧ Nw w w' := by
  rw [cfg_eq]
  obtain ⟨W0, hW0⟩ : ∃ W, W = w.alloc (.cells #[.slice x.v.a x.v.l.length x.v.c, .slice x.o.a x.o.l.length x.o.c, .slice x.l.a x.l.l.length x.l.c, .slice x.w.a x.w.l.length x.w.c] 45) := ⟨_, rfl⟩
  have p0 : Nw w W0 := by rw [hW0]; exact (Fr.refl (fun _ => False) _).alloc _
  have b0 : Blk W0 w.heap.size 45 #[.slice x.v.a x.v.l.length x.v.c, .slice x.o.a x.o.l.length x.o.c, .slice x.l.a x.l.l.length x.l.c, .slice x.w.a x.w.l.length x.w.c] := by rw [hW0]; exact Blk.new _ _ _
  have hz1 : W0.heap.size = w.heap.size + 1 := by rw [hW0]; simp
  obtain ⟨W1, hW1⟩ : ∃ W, W = W0.alloc (.cells #[.slice y.v.a y.v.l.length y.v.c, .slice y.o.a y.o.l.length y.o.c, .slice y.l.a y.l.l.length y.l.c, .slice y.w.a y.w.l.length y.w.c] 45) := ⟨_, rfl⟩
  have p1 : Nw W0 W1 := by rw [hW1]; exact (Fr.refl (fun _ => False) _).alloc _
  have b1 : Blk W1 (w.heap.size + 1) 45 #[.slice y.v.a y.v.l.length y.v.c, .slice y.o.a y.o.l.length y.o.c, .slice y.l.a y.l.l.length y.l.c, .slice y.w.a y.w.l.length y.w.c] := by rw [hW1, ← hz1]; exact Blk.new _ _ _
  have Q0 : Nw w W1 := p0.tr p1
  have b0 := b0.fr p1 (fun h => h)
  have z1 : ∀ m : Later W1, Calls Tryz.prog 209 #[.slice x.v.a x.v.l.length x.v.c, .slice y.v.a y.v.l.length y.v.c] m.at_ fun e w' => e = .returned (.bool (decide (x.v.l = y.v.l))) ∧ Nw m.at_ w' := fun m => by
    have f := Q0.tr m.nw
    exact same_ints _ F1 F2 _ _ _ _ _ _ (hx.v.sl.fr f (fun _ _ h => h)) (hy.v.sl.fr f (fun _ _ h => h)) (by have := hz.v; omega)
  obtain ⟨d1, e1⟩ : ∃ d, (decide (x.v.l = y.v.l)) = d := ⟨_, rfl⟩
  simp only [e1] at z1 ⊢
  have z2 : ∀ m : Later W1, Calls Tryz.prog 209 #[.slice x.o.a x.o.l.length x.o.c, .slice y.o.a y.o.l.length y.o.c] m.at_ fun e w' => e = .returned (.bool (decide (x.o.l = y.o.l))) ∧ Nw m.at_ w' := fun m => by
    have f := Q0.tr m.nw
    exact same_ints _ F1 F2 _ _ _ _ _ _ (hx.o.sl.fr f (fun _ _ h => h)) (hy.o.sl.fr f (fun _ _ h => h)) (by have := hz.o; omega)
  obtain ⟨d2, e2⟩ : ∃ d, (decide (x.o.l = y.o.l)) = d := ⟨_, rfl⟩
  simp only [e2] at z2 ⊢
  have z3 : ∀ m : Later W1, Calls Tryz.prog 209 #[.slice x.l.a x.l.l.length x.l.c, .slice y.l.a y.l.l.length y.l.c] m.at_ fun e w' => e = .returned (.bool (decide (x.l.l = y.l.l))) ∧ Nw m.at_ w' := fun m => by
    have f := Q0.tr m.nw
    exact same_ints _ F1 F2 _ _ _ _ _ _ (hx.l.sl.fr f (fun _ _ h => h)) (hy.l.sl.fr f (fun _ _ h => h)) (by have := hz.l; omega)
  obtain ⟨d3, e3⟩ : ∃ d, (decide (x.l.l = y.l.l)) = d := ⟨_, rfl⟩
  simp only [e3] at z3 ⊢
  have z4 : ∀ m : Later W1, Calls Tryz.prog 209 #[.slice x.w.a x.w.l.length x.w.c, .slice y.w.a y.w.l.length y.w.c] m.at_ fun e w' => e = .returned (.bool (decide (x.w.l = y.w.l))) ∧ Nw m.at_ w' := fun m => by
    have f := Q0.tr m.nw
    exact same_ints _ F1 F2 _ _ _ _ _ _ (hx.w.sl.fr f (fun _ _ h => h)) (hy.w.sl.fr f (fun _ _ h => h)) (by have := hz.w; omega)
  obtain ⟨d4, e4⟩ : ∃ d, (decide (x.w.l = y.w.l)) = d := ⟨_, rfl⟩
  simp only [e4] at z4 ⊢
  have hS : ∀ w1, Nw W1 w1 → w1.cell? ⟨w.heap.size, 0, none⟩ = some (.slice x.v.a x.v.l.length x.v.c) ∧ w1.cell? ⟨w.heap.size, 1, none⟩ = some (.slice x.o.a x.o.l.length x.o.c) ∧ w1.cell? ⟨w.heap.size, 2, none⟩ = some (.slice x.l.a x.l.l.length x.l.c) ∧ w1.cell? ⟨w.heap.size, 3, none⟩ = some (.slice x.w.a x.w.l.length x.w.c) ∧ w1.cell? ⟨(w.heap.size + 1), 0, none⟩ = some (.slice y.v.a y.v.l.length y.v.c) ∧ w1.cell? ⟨(w.heap.size + 1), 1, none⟩ = some (.slice y.o.a y.o.l.length y.o.c) ∧ w1.cell? ⟨(w.heap.size + 1), 2, none⟩ = some (.slice y.l.a y.l.l.length y.l.c) ∧ w1.cell? ⟨(w.heap.size + 1), 3, none⟩ = some (.slice y.w.a y.w.l.length y.w.c) := fun w1 f => by
    have a0 := b0.fr f (fun h => h)
    have a1 := b1.fr f (fun h => h)
    exact ⟨by simpa using a0.cell 0, by simpa using a0.cell 1, by simpa using a0.cell 2, by simpa using a0.cell 3, by simpa using a1.cell 0, by simpa using a1.cell 1, by simpa using a1.cell 2, by simpa using a1.cell 3⟩
  have HW0 := Lib.hid hW0
  have HW1 := Lib.hid hW1
  clear hW0 b0 hW1 b1 e1 e2 e3 e4
  cases d1 with
  | false =>
    go_enter Tryz.func159, Tryz.ntmps159
    go_upto_region 1 with (fail)
    rw [← HW0.out, ← HW1.out]
    obtain ⟨k0_0_0, k0_0_1, k0_0_2, k0_0_3, k0_1_0, k0_1_1, k0_1_2, k0_1_3⟩ := hS W1 (Fr.refl _ _)
    go_wp2_with fail
    refine (z1 ⟨_, (Fr.refl (fun _ => False) W1)⟩).mono ?_
    rintro e v1 ⟨rfl, r1⟩
    have Q1 : Nw W1 v1 := (Fr.refl (fun _ => False) W1).tr r1
    obtain ⟨k1_0_0, k1_0_1, k1_0_2, k1_0_3, k1_1_0, k1_1_1, k1_1_2, k1_1_3⟩ := hS v1 Q1
    go_wp2_with fail
    go_ret
    exact ⟨rfl, Q0.tr Q1⟩
  | true =>
  cases d2 with
  | false =>
    go_enter Tryz.func159, Tryz.ntmps159
    go_upto_region 1 with (fail)
    rw [← HW0.out, ← HW1.out]
    obtain ⟨k0_0_0, k0_0_1, k0_0_2, k0_0_3, k0_1_0, k0_1_1, k0_1_2, k0_1_3⟩ := hS W1 (Fr.refl _ _)
    go_wp2_with fail
    refine (z1 ⟨_, (Fr.refl (fun _ => False) W1)⟩).mono ?_
    rintro e v1 ⟨rfl, r1⟩
    have Q1 : Nw W1 v1 := (Fr.refl (fun _ => False) W1).tr r1
    obtain ⟨k1_0_0, k1_0_1, k1_0_2, k1_0_3, k1_1_0, k1_1_1, k1_1_2, k1_1_3⟩ := hS v1 Q1
    go_wp2_with fail
    refine (z2 ⟨_, Q1⟩).mono ?_
    rintro e v2 ⟨rfl, r2⟩
    have Q2 : Nw W1 v2 := Q1.tr r2
    obtain ⟨k2_0_0, k2_0_1, k2_0_2, k2_0_3, k2_1_0, k2_1_1, k2_1_2, k2_1_3⟩ := hS v2 Q2
    go_wp2_with fail
    go_ret
    exact ⟨rfl, Q0.tr Q2⟩
  | true =>
  cases d3 with
  | false =>
    go_enter Tryz.func159, Tryz.ntmps159
    go_upto_region 1 with (fail)
    rw [← HW0.out, ← HW1.out]
    obtain ⟨k0_0_0, k0_0_1, k0_0_2, k0_0_3, k0_1_0, k0_1_1, k0_1_2, k0_1_3⟩ := hS W1 (Fr.refl _ _)
    go_wp2_with fail
    refine (z1 ⟨_, (Fr.refl (fun _ => False) W1)⟩).mono ?_
    rintro e v1 ⟨rfl, r1⟩
    have Q1 : Nw W1 v1 := (Fr.refl (fun _ => False) W1).tr r1
    obtain ⟨k1_0_0, k1_0_1, k1_0_2, k1_0_3, k1_1_0, k1_1_1, k1_1_2, k1_1_3⟩ := hS v1 Q1
    go_wp2_with fail
    refine (z2 ⟨_, Q1⟩).mono ?_
    rintro e v2 ⟨rfl, r2⟩
    have Q2 : Nw W1 v2 := Q1.tr r2
    obtain ⟨k2_0_0, k2_0_1, k2_0_2, k2_0_3, k2_1_0, k2_1_1, k2_1_2, k2_1_3⟩ := hS v2 Q2
    go_wp2_with fail
    refine (z3 ⟨_, Q2⟩).mono ?_
    rintro e v3 ⟨rfl, r3⟩
    have Q3 : Nw W1 v3 := Q2.tr r3
    obtain ⟨k3_0_0, k3_0_1, k3_0_2, k3_0_3, k3_1_0, k3_1_1, k3_1_2, k3_1_3⟩ := hS v3 Q3
    go_wp2_with fail
    go_ret
    exact ⟨rfl, Q0.tr Q3⟩
  | true =>
  cases d4 with
  | false =>
    go_enter Tryz.func159, Tryz.ntmps159
    go_upto_region 1 with (fail)
    rw [← HW0.out, ← HW1.out]
    obtain ⟨k0_0_0, k0_0_1, k0_0_2, k0_0_3, k0_1_0, k0_1_1, k0_1_2, k0_1_3⟩ := hS W1 (Fr.refl _ _)
    go_wp2_with fail
    refine (z1 ⟨_, (Fr.refl (fun _ => False) W1)⟩).mono ?_
    rintro e v1 ⟨rfl, r1⟩
    have Q1 : Nw W1 v1 := (Fr.refl (fun _ => False) W1).tr r1
    obtain ⟨k1_0_0, k1_0_1, k1_0_2, k1_0_3, k1_1_0, k1_1_1, k1_1_2, k1_1_3⟩ := hS v1 Q1
    go_wp2_with fail
    refine (z2 ⟨_, Q1⟩).mono ?_
    rintro e v2 ⟨rfl, r2⟩
    have Q2 : Nw W1 v2 := Q1.tr r2
    obtain ⟨k2_0_0, k2_0_1, k2_0_2, k2_0_3, k2_1_0, k2_1_1, k2_1_2, k2_1_3⟩ := hS v2 Q2
    go_wp2_with fail
    refine (z3 ⟨_, Q2⟩).mono ?_
    rintro e v3 ⟨rfl, r3⟩
    have Q3 : Nw W1 v3 := Q2.tr r3
    obtain ⟨k3_0_0, k3_0_1, k3_0_2, k3_0_3, k3_1_0, k3_1_1, k3_1_2, k3_1_3⟩ := hS v3 Q3
    go_wp2_with fail
    refine (z4 ⟨_, Q3⟩).mono ?_
    rintro e v4 ⟨rfl, r4⟩
    have Q4 : Nw W1 v4 := Q3.tr r4
    obtain ⟨k4_0_0, k4_0_1, k4_0_2, k4_0_3, k4_1_0, k4_1_1, k4_1_2, k4_1_3⟩ := hS v4 Q4
    go_wp2_with fail
    go_ret
    exact ⟨rfl, Q0.tr Q4⟩
  | true =>
  go_enter Tryz.func159, Tryz.ntmps159
  go_upto_region 1 with (fail)
  rw [← HW0.out, ← HW1.out]
  obtain ⟨k0_0_0, k0_0_1, k0_0_2, k0_0_3, k0_1_0, k0_1_1, k0_1_2, k0_1_3⟩ := hS W1 (Fr.refl _ _)
  go_wp2_with fail
  refine (z1 ⟨_, (Fr.refl (fun _ => False) W1)⟩).mono ?_
  rintro e v1 ⟨rfl, r1⟩
  have Q1 : Nw W1 v1 := (Fr.refl (fun _ => False) W1).tr r1
  obtain ⟨k1_0_0, k1_0_1, k1_0_2, k1_0_3, k1_1_0, k1_1_1, k1_1_2, k1_1_3⟩ := hS v1 Q1
  go_wp2_with fail
  refine (z2 ⟨_, Q1⟩).mono ?_
  rintro e v2 ⟨rfl, r2⟩
  have Q2 : Nw W1 v2 := Q1.tr r2
  obtain ⟨k2_0_0, k2_0_1, k2_0_2, k2_0_3, k2_1_0, k2_1_1, k2_1_2, k2_1_3⟩ := hS v2 Q2
  go_wp2_with fail
  refine (z3 ⟨_, Q2⟩).mono ?_
  rintro e v3 ⟨rfl, r3⟩
  have Q3 : Nw W1 v3 := Q2.tr r3
  obtain ⟨k3_0_0, k3_0_1, k3_0_2, k3_0_3, k3_1_0, k3_1_1, k3_1_2, k3_1_3⟩ := hS v3 Q3
  go_wp2_with fail
  refine (z4 ⟨_, Q3⟩).mono ?_
  rintro e v4 ⟨rfl, r4⟩
  have Q4 : Nw W1 v4 := Q3.tr r4
  obtain ⟨k4_0_0, k4_0_1, k4_0_2, k4_0_3, k4_1_0, k4_1_1, k4_1_2, k4_1_3⟩ := hS v4 Q4
  go_wp2_with fail
  go_ret
  exact ⟨rfl, Q0.tr Q4⟩
set_option maxRecDepth 100000 in
set_option maxHeartbeats 4000000 in
theorem same_ent (w : World) (F1 F2 : Nat → Prop) (x y : EntM) (hx : EntIn w F1 x) (hy : EntIn w F2 y) (hz : EntSz x) :
    Calls Tryz.prog 158 #[.agg (entA x), .agg (entA y)] w fun e w' => e = .returned (.bool (decide (x.x = y.x))) ∧ Nw w w' := by
  rw [ent_eq]
  obtain ⟨W0, hW0⟩ : ∃ W, W = w.alloc (.cells #[I64 x.term, U8V x.kind, .slice x.cmd.a x.cmd.l.length x.cmd.c, .slice x.cfg.v.a x.cfg.v.l.length x.cfg.v.c, .slice x.cfg.o.a x.cfg.o.l.length x.cfg.o.c, .slice x.cfg.l.a x.cfg.l.l.length x.cfg.l.c, .slice x.cfg.w.a x.cfg.w.l.length x.cfg.w.c] 87) := ⟨_, rfl⟩
  have p0 : Nw w W0 := by rw [hW0]; exact (Fr.refl (fun _ => False) _).alloc _
  have b0 : Blk W0 w.heap.size 87 #[I64 x.term, U8V x.kind, .slice x.cmd.a x.cmd.l.length x.cmd.c, .slice x.cfg.v.a x.cfg.v.l.length x.cfg.v.c, .slice x.cfg.o.a x.cfg.o.l.length x.cfg.o.c, .slice x.cfg.l.a x.cfg.l.l.length x.cfg.l.c, .slice x.cfg.w.a x.cfg.w.l.length x.cfg.w.c] := by rw [hW0]; exact Blk.new _ _ _
  have hz1 : W0.heap.size = w.heap.size + 1 := by rw [hW0]; simp
  obtain ⟨W1, hW1⟩ : ∃ W, W = W0.alloc (.cells #[I64 y.term, U8V y.kind, .slice y.cmd.a y.cmd.l.length y.cmd.c, .slice y.cfg.v.a y.cfg.v.l.length y.cfg.v.c, .slice y.cfg.o.a y.cfg.o.l.length y.cfg.o.c, .slice y.cfg.l.a y.cfg.l.l.length y.cfg.l.c, .slice y.cfg.w.a y.cfg.w.l.length y.cfg.w.c] 87) := ⟨_, rfl⟩
  have p1 : Nw W0 W1 := by rw [hW1]; exact (Fr.refl (fun _ => False) _).alloc _
  have b1 : Blk W1 (w.heap.size + 1) 87 #[I64 y.term, U8V y.kind, .slice y.cmd.a y.cmd.l.length y.cmd.c, .slice y.cfg.v.a y.cfg.v.l.length y.cfg.v.c, .slice y.cfg.o.a y.cfg.o.l.length y.cfg.o.c, .slice y.cfg.l.a y.cfg.l.l.length y.cfg.l.c, .slice y.cfg.w.a y.cfg.w.l.length y.cfg.w.c] := by rw [hW1, ← hz1]; exact Blk.new _ _ _
  have Q0 : Nw w W1 := p0.tr p1
  have b0 := b0.fr p1 (fun h => h)
  have z1 : (x.term == y.term) = (decide (x.term = y.term)) := rfl
  obtain ⟨d1, e1⟩ : ∃ d, (decide (x.term = y.term)) = d := ⟨_, rfl⟩
  simp only [e1] at z1 ⊢
  have z2 : (x.kind == y.kind) = (decide (x.kind = y.kind)) := rfl
  obtain ⟨d2, e2⟩ : ∃ d, (decide (x.kind = y.kind)) = d := ⟨_, rfl⟩
  simp only [e2] at z2 ⊢
  have z3 : ∀ m : Later W1, Calls Tryz.prog 34 #[.slice x.cmd.a x.cmd.l.length x.cmd.c, .slice y.cmd.a y.cmd.l.length y.cmd.c] m.at_ fun e w' => e = .returned (.bool (decide (x.cmd.l = y.cmd.l))) ∧ Nw m.at_ w' := fun m => by
    have f := Q0.tr m.nw
    exact (same_u8 _ F1 F2 _ _ _ _ _ _ (hx.cmd.sl.fr f (fun _ _ h => h)) (hy.cmd.sl.fr f (fun _ _ h => h)) (by have := hz.cmd; omega)).mono fun e w' h => ⟨h.1, h.2.fr _⟩
  obtain ⟨d3, e3⟩ : ∃ d, (decide (x.cmd.l = y.cmd.l)) = d := ⟨_, rfl⟩
  simp only [e3] at z3 ⊢
  have z4 : ∀ m : Later W1, Calls Tryz.prog 159 #[.agg #[.slice x.cfg.v.a x.cfg.v.l.length x.cfg.v.c, .slice x.cfg.o.a x.cfg.o.l.length x.cfg.o.c, .slice x.cfg.l.a x.cfg.l.l.length x.cfg.l.c, .slice x.cfg.w.a x.cfg.w.l.length x.cfg.w.c], .agg #[.slice y.cfg.v.a y.cfg.v.l.length y.cfg.v.c, .slice y.cfg.o.a y.cfg.o.l.length y.cfg.o.c, .slice y.cfg.l.a y.cfg.l.l.length y.cfg.l.c, .slice y.cfg.w.a y.cfg.w.l.length y.cfg.w.c]] m.at_ fun e w' => e = .returned (.bool (decide (x.cfg.x = y.cfg.x))) ∧ Nw m.at_ w' := fun m => by
    have f := Q0.tr m.nw
    exact same_cfg _ F1 F2 _ _ (hx.cfg.nw f) (hy.cfg.nw f) hz.cfg
  obtain ⟨d4, e4⟩ : ∃ d, (decide (x.cfg.x = y.cfg.x)) = d := ⟨_, rfl⟩
  simp only [e4] at z4 ⊢
  have hS : ∀ w1, Nw W1 w1 → w1.cell? ⟨w.heap.size, 0, none⟩ = some (I64 x.term) ∧ w1.cell? ⟨w.heap.size, 1, none⟩ = some (U8V x.kind) ∧ w1.cell? ⟨w.heap.size, 2, none⟩ = some (.slice x.cmd.a x.cmd.l.length x.cmd.c) ∧ w1.cell? ⟨w.heap.size, 3, none⟩ = some (.slice x.cfg.v.a x.cfg.v.l.length x.cfg.v.c) ∧ w1.cell? ⟨w.heap.size, 4, none⟩ = some (.slice x.cfg.o.a x.cfg.o.l.length x.cfg.o.c) ∧ w1.cell? ⟨w.heap.size, 5, none⟩ = some (.slice x.cfg.l.a x.cfg.l.l.length x.cfg.l.c) ∧ w1.cell? ⟨w.heap.size, 6, none⟩ = some (.slice x.cfg.w.a x.cfg.w.l.length x.cfg.w.c) ∧ w1.cell? ⟨(w.heap.size + 1), 0, none⟩ = some (I64 y.term) ∧ w1.cell? ⟨(w.heap.size + 1), 1, none⟩ = some (U8V y.kind) ∧ w1.cell? ⟨(w.heap.size + 1), 2, none⟩ = some (.slice y.cmd.a y.cmd.l.length y.cmd.c) ∧ w1.cell? ⟨(w.heap.size + 1), 3, none⟩ = some (.slice y.cfg.v.a y.cfg.v.l.length y.cfg.v.c) ∧ w1.cell? ⟨(w.heap.size + 1), 4, none⟩ = some (.slice y.cfg.o.a y.cfg.o.l.length y.cfg.o.c) ∧ w1.cell? ⟨(w.heap.size + 1), 5, none⟩ = some (.slice y.cfg.l.a y.cfg.l.l.length y.cfg.l.c) ∧ w1.cell? ⟨(w.heap.size + 1), 6, none⟩ = some (.slice y.cfg.w.a y.cfg.w.l.length y.cfg.w.c) := fun w1 f => by
    have a0 := b0.fr f (fun h => h)
    have a1 := b1.fr f (fun h => h)
    exact ⟨by simpa using a0.cell 0, by simpa using a0.cell 1, by simpa using a0.cell 2, by simpa using a0.cell 3, by simpa using a0.cell 4, by simpa using a0.cell 5, by simpa using a0.cell 6, by simpa using a1.cell 0, by simpa using a1.cell 1, by simpa using a1.cell 2, by simpa using a1.cell 3, by simpa using a1.cell 4, by simpa using a1.cell 5, by simpa using a1.cell 6⟩
  have HW0 := Lib.hid hW0
  have HW1 := Lib.hid hW1
  clear hW0 b0 hW1 b1 e1 e2 e3 e4
  cases d1 with
  | false =>
    go_enter Tryz.func158, Tryz.ntmps158
    go_upto_region 1 with (fail)
    rw [← HW0.out, ← HW1.out]
    obtain ⟨k0_0_0, k0_0_1, k0_0_2, k0_0_3, k0_0_4, k0_0_5, k0_0_6, k0_1_0, k0_1_1, k0_1_2, k0_1_3, k0_1_4, k0_1_5, k0_1_6⟩ := hS W1 (Fr.refl _ _)
    go_wp2_with fail
    go_ret
    exact ⟨rfl, Q0.tr (Fr.refl (fun _ => False) W1)⟩
  | true =>
  cases d2 with
  | false =>
    go_enter Tryz.func158, Tryz.ntmps158
    go_upto_region 1 with (fail)
    rw [← HW0.out, ← HW1.out]
    obtain ⟨k0_0_0, k0_0_1, k0_0_2, k0_0_3, k0_0_4, k0_0_5, k0_0_6, k0_1_0, k0_1_1, k0_1_2, k0_1_3, k0_1_4, k0_1_5, k0_1_6⟩ := hS W1 (Fr.refl _ _)
    go_wp2_with fail
    go_ret
    exact ⟨rfl, Q0.tr (Fr.refl (fun _ => False) W1)⟩
  | true =>
  cases d3 with
  | false =>
    go_enter Tryz.func158, Tryz.ntmps158
    go_upto_region 1 with (fail)
    rw [← HW0.out, ← HW1.out]
    obtain ⟨k0_0_0, k0_0_1, k0_0_2, k0_0_3, k0_0_4, k0_0_5, k0_0_6, k0_1_0, k0_1_1, k0_1_2, k0_1_3, k0_1_4, k0_1_5, k0_1_6⟩ := hS W1 (Fr.refl _ _)
    go_wp2_with fail
    refine (z3 ⟨_, (Fr.refl (fun _ => False) W1)⟩).mono ?_
    rintro e v1 ⟨rfl, r1⟩
    have Q1 : Nw W1 v1 := (Fr.refl (fun _ => False) W1).tr r1
    obtain ⟨k1_0_0, k1_0_1, k1_0_2, k1_0_3, k1_0_4, k1_0_5, k1_0_6, k1_1_0, k1_1_1, k1_1_2, k1_1_3, k1_1_4, k1_1_5, k1_1_6⟩ := hS v1 Q1
    go_wp2_with fail
    go_ret
    exact ⟨rfl, Q0.tr Q1⟩
  | true =>
  cases d4 with
  | false =>
    go_enter Tryz.func158, Tryz.ntmps158
    go_upto_region 1 with (fail)
    rw [← HW0.out, ← HW1.out]
    obtain ⟨k0_0_0, k0_0_1, k0_0_2, k0_0_3, k0_0_4, k0_0_5, k0_0_6, k0_1_0, k0_1_1, k0_1_2, k0_1_3, k0_1_4, k0_1_5, k0_1_6⟩ := hS W1 (Fr.refl _ _)
    go_wp2_with fail
    refine (z3 ⟨_, (Fr.refl (fun _ => False) W1)⟩).mono ?_
    rintro e v1 ⟨rfl, r1⟩
    have Q1 : Nw W1 v1 := (Fr.refl (fun _ => False) W1).tr r1
    obtain ⟨k1_0_0, k1_0_1, k1_0_2, k1_0_3, k1_0_4, k1_0_5, k1_0_6, k1_1_0, k1_1_1, k1_1_2, k1_1_3, k1_1_4, k1_1_5, k1_1_6⟩ := hS v1 Q1
    go_wp2_with fail
    refine (z4 ⟨_, Q1⟩).mono ?_
    rintro e v2 ⟨rfl, r2⟩
    have Q2 : Nw W1 v2 := Q1.tr r2
    obtain ⟨k2_0_0, k2_0_1, k2_0_2, k2_0_3, k2_0_4, k2_0_5, k2_0_6, k2_1_0, k2_1_1, k2_1_2, k2_1_3, k2_1_4, k2_1_5, k2_1_6⟩ := hS v2 Q2
    go_wp2_with fail
    go_ret
    exact ⟨rfl, Q0.tr Q2⟩
  | true =>
  go_enter Tryz.func158, Tryz.ntmps158
  go_upto_region 1 with (fail)
  rw [← HW0.out, ← HW1.out]
  obtain ⟨k0_0_0, k0_0_1, k0_0_2, k0_0_3, k0_0_4, k0_0_5, k0_0_6, k0_1_0, k0_1_1, k0_1_2, k0_1_3, k0_1_4, k0_1_5, k0_1_6⟩ := hS W1 (Fr.refl _ _)
  go_wp2_with fail
  refine (z3 ⟨_, (Fr.refl (fun _ => False) W1)⟩).mono ?_
  rintro e v1 ⟨rfl, r1⟩
  have Q1 : Nw W1 v1 := (Fr.refl (fun _ => False) W1).tr r1
  obtain ⟨k1_0_0, k1_0_1, k1_0_2, k1_0_3, k1_0_4, k1_0_5, k1_0_6, k1_1_0, k1_1_1, k1_1_2, k1_1_3, k1_1_4, k1_1_5, k1_1_6⟩ := hS v1 Q1
  go_wp2_with fail
  refine (z4 ⟨_, Q1⟩).mono ?_
  rintro e v2 ⟨rfl, r2⟩
  have Q2 : Nw W1 v2 := Q1.tr r2
  obtain ⟨k2_0_0, k2_0_1, k2_0_2, k2_0_3, k2_0_4, k2_0_5, k2_0_6, k2_1_0, k2_1_1, k2_1_2, k2_1_3, k2_1_4, k2_1_5, k2_1_6⟩ := hS v2 Q2
  go_wp2_with fail
  go_ret
  exact ⟨rfl, Q0.tr Q2⟩
set_option maxRecDepth 100000 in
set_option maxHeartbeats 4000000 in
theorem same_bas (w : World) (F1 F2 : Nat → Prop) (x y : BasM) (hx : CfgIn w F1 x.cfg) (hy : CfgIn w F2 y.cfg) (hz : CfgSz x.cfg) :
    Calls Tryz.prog 89 #[.agg (basA x), .agg (basA y)] w fun e w' => e = .returned (.bool (decide (x.x = y.x))) ∧ Nw w w' := by
  rw [bas_eq]
  obtain ⟨W0, hW0⟩ : ∃ W, W = w.alloc (.cells #[I64 x.index, I64 x.term, .slice x.cfg.v.a x.cfg.v.l.length x.cfg.v.c, .slice x.cfg.o.a x.cfg.o.l.length x.cfg.o.c, .slice x.cfg.l.a x.cfg.l.l.length x.cfg.l.c, .slice x.cfg.w.a x.cfg.w.l.length x.cfg.w.c] 47) := ⟨_, rfl⟩
  have p0 : Nw w W0 := by rw [hW0]; exact (Fr.refl (fun _ => False) _).alloc _
  have b0 : Blk W0 w.heap.size 47 #[I64 x.index, I64 x.term, .slice x.cfg.v.a x.cfg.v.l.length x.cfg.v.c, .slice x.cfg.o.a x.cfg.o.l.length x.cfg.o.c, .slice x.cfg.l.a x.cfg.l.l.length x.cfg.l.c, .slice x.cfg.w.a x.cfg.w.l.length x.cfg.w.c] := by rw [hW0]; exact Blk.new _ _ _
  have hz1 : W0.heap.size = w.heap.size + 1 := by rw [hW0]; simp
  obtain ⟨W1, hW1⟩ : ∃ W, W = W0.alloc (.cells #[I64 y.index, I64 y.term, .slice y.cfg.v.a y.cfg.v.l.length y.cfg.v.c, .slice y.cfg.o.a y.cfg.o.l.length y.cfg.o.c, .slice y.cfg.l.a y.cfg.l.l.length y.cfg.l.c, .slice y.cfg.w.a y.cfg.w.l.length y.cfg.w.c] 47) := ⟨_, rfl⟩
  have p1 : Nw W0 W1 := by rw [hW1]; exact (Fr.refl (fun _ => False) _).alloc _
  have b1 : Blk W1 (w.heap.size + 1) 47 #[I64 y.index, I64 y.term, .slice y.cfg.v.a y.cfg.v.l.length y.cfg.v.c, .slice y.cfg.o.a y.cfg.o.l.length y.cfg.o.c, .slice y.cfg.l.a y.cfg.l.l.length y.cfg.l.c, .slice y.cfg.w.a y.cfg.w.l.length y.cfg.w.c] := by rw [hW1, ← hz1]; exact Blk.new _ _ _
  have Q0 : Nw w W1 := p0.tr p1
  have b0 := b0.fr p1 (fun h => h)
  have z1 : (x.index == y.index) = (decide (x.index = y.index)) := rfl
  obtain ⟨d1, e1⟩ : ∃ d, (decide (x.index = y.index)) = d := ⟨_, rfl⟩
  simp only [e1] at z1 ⊢
  have z2 : (x.term == y.term) = (decide (x.term = y.term)) := rfl
  obtain ⟨d2, e2⟩ : ∃ d, (decide (x.term = y.term)) = d := ⟨_, rfl⟩
  simp only [e2] at z2 ⊢
  have z3 : ∀ m : Later W1, Calls Tryz.prog 159 #[.agg #[.slice x.cfg.v.a x.cfg.v.l.length x.cfg.v.c, .slice x.cfg.o.a x.cfg.o.l.length x.cfg.o.c, .slice x.cfg.l.a x.cfg.l.l.length x.cfg.l.c, .slice x.cfg.w.a x.cfg.w.l.length x.cfg.w.c], .agg #[.slice y.cfg.v.a y.cfg.v.l.length y.cfg.v.c, .slice y.cfg.o.a y.cfg.o.l.length y.cfg.o.c, .slice y.cfg.l.a y.cfg.l.l.length y.cfg.l.c, .slice y.cfg.w.a y.cfg.w.l.length y.cfg.w.c]] m.at_ fun e w' => e = .returned (.bool (decide (x.cfg.x = y.cfg.x))) ∧ Nw m.at_ w' := fun m => by
    have f := Q0.tr m.nw
    exact same_cfg _ F1 F2 _ _ (hx.nw f) (hy.nw f) hz
  obtain ⟨d3, e3⟩ : ∃ d, (decide (x.cfg.x = y.cfg.x)) = d := ⟨_, rfl⟩
  simp only [e3] at z3 ⊢
  have hS : ∀ w1, Nw W1 w1 → w1.cell? ⟨w.heap.size, 0, none⟩ = some (I64 x.index) ∧ w1.cell? ⟨w.heap.size, 1, none⟩ = some (I64 x.term) ∧ w1.cell? ⟨w.heap.size, 2, none⟩ = some (.slice x.cfg.v.a x.cfg.v.l.length x.cfg.v.c) ∧ w1.cell? ⟨w.heap.size, 3, none⟩ = some (.slice x.cfg.o.a x.cfg.o.l.length x.cfg.o.c) ∧ w1.cell? ⟨w.heap.size, 4, none⟩ = some (.slice x.cfg.l.a x.cfg.l.l.length x.cfg.l.c) ∧ w1.cell? ⟨w.heap.size, 5, none⟩ = some (.slice x.cfg.w.a x.cfg.w.l.length x.cfg.w.c) ∧ w1.cell? ⟨(w.heap.size + 1), 0, none⟩ = some (I64 y.index) ∧ w1.cell? ⟨(w.heap.size + 1), 1, none⟩ = some (I64 y.term) ∧ w1.cell? ⟨(w.heap.size + 1), 2, none⟩ = some (.slice y.cfg.v.a y.cfg.v.l.length y.cfg.v.c) ∧ w1.cell? ⟨(w.heap.size + 1), 3, none⟩ = some (.slice y.cfg.o.a y.cfg.o.l.length y.cfg.o.c) ∧ w1.cell? ⟨(w.heap.size + 1), 4, none⟩ = some (.slice y.cfg.l.a y.cfg.l.l.length y.cfg.l.c) ∧ w1.cell? ⟨(w.heap.size + 1), 5, none⟩ = some (.slice y.cfg.w.a y.cfg.w.l.length y.cfg.w.c) := fun w1 f => by
    have a0 := b0.fr f (fun h => h)
    have a1 := b1.fr f (fun h => h)
    exact ⟨by simpa using a0.cell 0, by simpa using a0.cell 1, by simpa using a0.cell 2, by simpa using a0.cell 3, by simpa using a0.cell 4, by simpa using a0.cell 5, by simpa using a1.cell 0, by simpa using a1.cell 1, by simpa using a1.cell 2, by simpa using a1.cell 3, by simpa using a1.cell 4, by simpa using a1.cell 5⟩
  have HW0 := Lib.hid hW0
  have HW1 := Lib.hid hW1
  clear hW0 b0 hW1 b1 e1 e2 e3
  cases d1 with
  | false =>
    go_enter Tryz.func89, Tryz.ntmps89
    go_upto_region 1 with (fail)
    rw [← HW0.out, ← HW1.out]
    obtain ⟨k0_0_0, k0_0_1, k0_0_2, k0_0_3, k0_0_4, k0_0_5, k0_1_0, k0_1_1, k0_1_2, k0_1_3, k0_1_4, k0_1_5⟩ := hS W1 (Fr.refl _ _)
    go_wp2_with fail
    go_ret
    exact ⟨rfl, Q0.tr (Fr.refl (fun _ => False) W1)⟩
  | true =>
  cases d2 with
  | false =>
    go_enter Tryz.func89, Tryz.ntmps89
    go_upto_region 1 with (fail)
    rw [← HW0.out, ← HW1.out]
    obtain ⟨k0_0_0, k0_0_1, k0_0_2, k0_0_3, k0_0_4, k0_0_5, k0_1_0, k0_1_1, k0_1_2, k0_1_3, k0_1_4, k0_1_5⟩ := hS W1 (Fr.refl _ _)
    go_wp2_with fail
    go_ret
    exact ⟨rfl, Q0.tr (Fr.refl (fun _ => False) W1)⟩
  | true =>
  cases d3 with
  | false =>
    go_enter Tryz.func89, Tryz.ntmps89
    go_upto_region 1 with (fail)
    rw [← HW0.out, ← HW1.out]
    obtain ⟨k0_0_0, k0_0_1, k0_0_2, k0_0_3, k0_0_4, k0_0_5, k0_1_0, k0_1_1, k0_1_2, k0_1_3, k0_1_4, k0_1_5⟩ := hS W1 (Fr.refl _ _)
    go_wp2_with fail
    refine (z3 ⟨_, (Fr.refl (fun _ => False) W1)⟩).mono ?_
    rintro e v1 ⟨rfl, r1⟩
    have Q1 : Nw W1 v1 := (Fr.refl (fun _ => False) W1).tr r1
    obtain ⟨k1_0_0, k1_0_1, k1_0_2, k1_0_3, k1_0_4, k1_0_5, k1_1_0, k1_1_1, k1_1_2, k1_1_3, k1_1_4, k1_1_5⟩ := hS v1 Q1
    go_wp2_with fail
    go_ret
    exact ⟨rfl, Q0.tr Q1⟩
  | true =>
  go_enter Tryz.func89, Tryz.ntmps89
  go_upto_region 1 with (fail)
  rw [← HW0.out, ← HW1.out]
  obtain ⟨k0_0_0, k0_0_1, k0_0_2, k0_0_3, k0_0_4, k0_0_5, k0_1_0, k0_1_1, k0_1_2, k0_1_3, k0_1_4, k0_1_5⟩ := hS W1 (Fr.refl _ _)
  go_wp2_with fail
  refine (z3 ⟨_, (Fr.refl (fun _ => False) W1)⟩).mono ?_
  rintro e v1 ⟨rfl, r1⟩
  have Q1 : Nw W1 v1 := (Fr.refl (fun _ => False) W1).tr r1
  obtain ⟨k1_0_0, k1_0_1, k1_0_2, k1_0_3, k1_0_4, k1_0_5, k1_1_0, k1_1_1, k1_1_2, k1_1_3, k1_1_4, k1_1_5⟩ := hS v1 Q1
  go_wp2_with fail
  go_ret
  exact ⟨rfl, Q0.tr Q1⟩
end Go.Proofs.YtippdjaakcgeoaaGreat

namespace Go.Proofs.YtippdjaakcgeoaaGreat
open Go Go.RowKit
set_option linter.unusedVariables false
set_option linter.unusedSimpArgs false
def same_entsR (w : World) (xs ys : List EntM) (i : Value) (wr : World) : Prop := ∃ k : Nat, i = .int .i64 k ∧ k ≤ xs.length ∧ (xs.take k).map EntM.x = (ys.take k).map EntM.x ∧ Nw w wr
set_option maxRecDepth 100000 in
set_option maxHeartbeats 4000000 in
theorem same_ents (w : World) (F1 F2 : Nat → Prop) (A1 A2 : Option Addr) (c1 c2 : Nat) (xs ys : List EntM) (h1 : Sl w F1 A1 (entsC xs)) (h2 : Sl w F2 A2 (entsC ys)) (e1 : ∀ e ∈ xs, EntIn w F1 e) (e2 : ∀ e ∈ ys, EntIn w F2 e) (hz : ∀ e ∈ xs, EntSz e) (hm1 : xs.length ≤ 1000000000000) :
    Calls Tryz.prog 88 #[.slice A1 xs.length c1, .slice A2 ys.length c2] w fun e w' => e = .returned (.bool (decide (xs.map EntM.x = ys.map EntM.x))) ∧ Nw w w' := by
  by_cases hl : xs.length = ys.length
  · have hlen : ((xs.length : Int) != (ys.length : Int)) = false := by simp [hl]
    have HL := Lib.hid hl
    have HZ := Lib.hid hz
    have E1 := Lib.hid e1
    have E2 := Lib.hid e2
    clear hl hz e1 e2
    go_enter Tryz.func88, Tryz.ntmps88
    go_wp2_with fail
    go_loopw [5] (fun i wr => same_entsR w xs ys i wr) (fun i _ => xs.length - (intOf i).toNat)
    case atStart => exact ⟨0, rfl, Nat.zero_le _, rfl, Fr.refl _ _⟩
    case round =>
      obtain ⟨k, rfl, hk, ht, hq⟩ := hrel
      have HT := Lib.hid ht
      clear ht
      by_cases hlt : k < xs.length
      · have hlt2 : k < ys.length := by have := HL.out; omega
        obtain ⟨b1, o1, rfl, _, _, hc1⟩ := (h1.fr hq (fun _ _ h => h)).ent hlt
        obtain ⟨b2, o2, rfl, _, _, hc2⟩ := (h2.fr hq (fun _ _ h => h)).ent hlt2
        have hi1 : (k : Int) < (xs.length : Int) := by omega
        have hi2 : (k : Int) < (ys.length : Int) := by omega
        have x1 := (E1.out _ (List.getElem_mem hlt)).nw hq
        have x2 := (E2.out _ (List.getElem_mem hlt2)).nw hq
        have z1 := HZ.out _ (List.getElem_mem hlt)
        obtain ⟨x, hx⟩ : ∃ x, xs[k] = x := ⟨_, rfl⟩
        obtain ⟨y, hy⟩ : ∃ y, ys[k] = y := ⟨_, rfl⟩
        rw [hx] at x1 z1 hc1
        rw [hy] at x2 hc2
        have hsm : ∀ m : Later wr, Calls Tryz.prog 158 #[.agg #[I64 x.term, U8V x.kind, .slice x.cmd.a x.cmd.l.length x.cmd.c, .slice x.cfg.v.a x.cfg.v.l.length x.cfg.v.c, .slice x.cfg.o.a x.cfg.o.l.length x.cfg.o.c, .slice x.cfg.l.a x.cfg.l.l.length x.cfg.l.c, .slice x.cfg.w.a x.cfg.w.l.length x.cfg.w.c], .agg #[I64 y.term, U8V y.kind, .slice y.cmd.a y.cmd.l.length y.cmd.c, .slice y.cfg.v.a y.cfg.v.l.length y.cfg.v.c, .slice y.cfg.o.a y.cfg.o.l.length y.cfg.o.c, .slice y.cfg.l.a y.cfg.l.l.length y.cfg.l.c, .slice y.cfg.w.a y.cfg.w.l.length y.cfg.w.c]] m.at_ fun e w' => e = .returned (.bool (decide (x.x = y.x))) ∧ Nw m.at_ w' := fun m => same_ent _ F1 F2 x y (x1.nw m.nw) (x2.nw m.nw) z1
        obtain ⟨d, hd⟩ : ∃ d, decide (x.x = y.x) = d := ⟨_, rfl⟩
        simp only [hd] at hsm
        have HD := Lib.hid hd
        have HX := Lib.hid hx
        have HY := Lib.hid hy
        have HSM := Lib.hid hsm
        have hC1 := Later.cells hc1
        have hC2 := Later.cells hc2
        have L1 := Lib.hid hC1
        have L2 := Lib.hid hC2
        clear hc1 hc2 hC1 hC2 hd hx hy hsm x1 x2 z1
        go_wp2_with fail
        refine wp_region_later (by kernel_rfl) (by kernel_rfl) ?_
        repeat (first | (refine quiet_load_cells (by rfl) 87 _ rfl b1 (o1 + k * 7) rfl _ _ L1.out Tryz.underlying87 rfl (by kernel_rfl) ?_; simp only [Act.put, List.setIfInBounds_toArray, List.set_cons_succ, List.set_cons_zero]) | (refine quiet_load_cells (by rfl) 87 _ rfl b2 (o2 + k * 7) rfl _ _ L2.out Tryz.underlying87 rfl (by kernel_rfl) ?_; simp only [Act.put, List.setIfInBounds_toArray, List.set_cons_succ, List.set_cons_zero]) | go_big_quiet_step ((go_at_call 158; exact Later.call (HSM.out _))))
        refine wpQuiet_later fun w5 q5 => ?_
        cases d with
        | false =>
          go_wp2_with fail
          go_ret
          refine ⟨ret_eq (congrArg Value.bool (decide_eq_false fun h => ?_).symm), hq.tr q5⟩
          have h3 := congrArg (fun l => l[k]?) h
          simp only [List.getElem?_map, List.getElem?_eq_getElem hlt, List.getElem?_eq_getElem hlt2, Option.map_some] at h3
          injection h3 with h3
          rw [HX.out, HY.out] at h3
          exact of_decide_eq_false HD.out h3
        | true =>
          go_wp2_with fail
          go_roundw
          case rel =>
            refine ⟨k + 1, by go_num, by omega, ?_, hq.tr q5⟩
            rw [List.take_succ_eq_append_getElem hlt, List.take_succ_eq_append_getElem hlt2, List.map_append, List.map_append, HT.out, HX.out, HY.out]
            congr 1
            rw [List.map_singleton, List.map_singleton, of_decide_eq_true HD.out]
          case measure => simp [intOf]; omega
      · go_wp2_with fail
        go_ret
        have hx : xs.map EntM.x = ys.map EntM.x := by
          have := HT.out
          rwa [List.take_of_length_le (by omega), List.take_of_length_le (by have := HL.out; omega)] at this
        exact ⟨ret_eq (congrArg Value.bool (decide_eq_true hx).symm), hq⟩
  · have hlen : ((xs.length : Int) != (ys.length : Int)) = true := by simp; omega
    go_enter Tryz.func88, Tryz.ntmps88
    go_wp2_with fail
    go_ret
    exact ⟨ret_eq (congrArg Value.bool (decide_eq_false fun h => hl (by have := congrArg List.length h; simpa using this)).symm), Fr.refl _ _⟩
end Go.Proofs.YtippdjaakcgeoaaGreat

namespace Go.Proofs.YtippdjaakcgeoaaGreat
open Go Go.RowKit
set_option linter.unusedVariables false
set_option linter.unusedSimpArgs false
theorem let_eq (x y : LetM) : decide (x.x = y.x) = (decide (x.kind = y.kind) && (decide (x.group = y.group) && (decide (x.src = y.src) && (decide (x.dst = y.dst) && (decide (x.term = y.term) && (decide (x.index = y.index) && (decide (x.logt = y.logt) && (decide (x.commit = y.commit) && (decide (x.ok = y.ok) && (decide (x.ents.l.map EntM.x = y.ents.l.map EntM.x) && (decide (x.base.x = y.base.x) && (decide (x.size = y.size) && (decide (x.at_ = y.at_) && (decide (x.tag = y.tag) && decide (x.bytes.l = y.bytes.l))))))))))))))) := by
  rw [Bool.eq_iff_iff]
  simp only [decide_eq_true_eq, Bool.and_eq_true, LetF.mk.injEq]
theorem beq_bool (a b : Bool) : (a == b) = decide (a = b) := by cases a <;> cases b <;> rfl
set_option maxRecDepth 100000 in
set_option maxHeartbeats 40000000 in
theorem same_let (w : World) (F1 F2 : Nat → Prop) (x y : LetM) (hx : LetIn w F1 x) (hy : LetIn w F2 y) (hz : LetSz x) :
    Calls Tryz.prog 38 #[.agg (letA x), .agg (letA y)] w fun e w' => e = .returned (.bool (decide (x.x = y.x))) ∧ Nw w w' := by
  rw [let_eq]
  obtain ⟨W0, hW0⟩ : ∃ W, W = w.alloc (.cells #[U8V x.kind, I64 x.group, I64 x.src, I64 x.dst, I64 x.term, I64 x.index, I64 x.logt, I64 x.commit, .bool x.ok, .slice x.ents.a x.ents.l.length x.ents.c, I64 x.base.index, I64 x.base.term, .slice x.base.cfg.v.a x.base.cfg.v.l.length x.base.cfg.v.c, .slice x.base.cfg.o.a x.base.cfg.o.l.length x.base.cfg.o.c, .slice x.base.cfg.l.a x.base.cfg.l.l.length x.base.cfg.l.c, .slice x.base.cfg.w.a x.base.cfg.w.l.length x.base.cfg.w.c, I64 x.size, I64 x.at_, I64 x.tag, .slice x.bytes.a x.bytes.l.length x.bytes.c] 50) := ⟨_, rfl⟩
  have p0 : Nw w W0 := by rw [hW0]; exact (Fr.refl (fun _ => False) _).alloc _
  have b0 : Blk W0 w.heap.size 50 #[U8V x.kind, I64 x.group, I64 x.src, I64 x.dst, I64 x.term, I64 x.index, I64 x.logt, I64 x.commit, .bool x.ok, .slice x.ents.a x.ents.l.length x.ents.c, I64 x.base.index, I64 x.base.term, .slice x.base.cfg.v.a x.base.cfg.v.l.length x.base.cfg.v.c, .slice x.base.cfg.o.a x.base.cfg.o.l.length x.base.cfg.o.c, .slice x.base.cfg.l.a x.base.cfg.l.l.length x.base.cfg.l.c, .slice x.base.cfg.w.a x.base.cfg.w.l.length x.base.cfg.w.c, I64 x.size, I64 x.at_, I64 x.tag, .slice x.bytes.a x.bytes.l.length x.bytes.c] := by rw [hW0]; exact Blk.new _ _ _
  have hz1 : W0.heap.size = w.heap.size + 1 := by rw [hW0]; simp
  obtain ⟨W1, hW1⟩ : ∃ W, W = W0.alloc (.cells #[U8V y.kind, I64 y.group, I64 y.src, I64 y.dst, I64 y.term, I64 y.index, I64 y.logt, I64 y.commit, .bool y.ok, .slice y.ents.a y.ents.l.length y.ents.c, I64 y.base.index, I64 y.base.term, .slice y.base.cfg.v.a y.base.cfg.v.l.length y.base.cfg.v.c, .slice y.base.cfg.o.a y.base.cfg.o.l.length y.base.cfg.o.c, .slice y.base.cfg.l.a y.base.cfg.l.l.length y.base.cfg.l.c, .slice y.base.cfg.w.a y.base.cfg.w.l.length y.base.cfg.w.c, I64 y.size, I64 y.at_, I64 y.tag, .slice y.bytes.a y.bytes.l.length y.bytes.c] 50) := ⟨_, rfl⟩
  have p1 : Nw W0 W1 := by rw [hW1]; exact (Fr.refl (fun _ => False) _).alloc _
  have b1 : Blk W1 (w.heap.size + 1) 50 #[U8V y.kind, I64 y.group, I64 y.src, I64 y.dst, I64 y.term, I64 y.index, I64 y.logt, I64 y.commit, .bool y.ok, .slice y.ents.a y.ents.l.length y.ents.c, I64 y.base.index, I64 y.base.term, .slice y.base.cfg.v.a y.base.cfg.v.l.length y.base.cfg.v.c, .slice y.base.cfg.o.a y.base.cfg.o.l.length y.base.cfg.o.c, .slice y.base.cfg.l.a y.base.cfg.l.l.length y.base.cfg.l.c, .slice y.base.cfg.w.a y.base.cfg.w.l.length y.base.cfg.w.c, I64 y.size, I64 y.at_, I64 y.tag, .slice y.bytes.a y.bytes.l.length y.bytes.c] := by rw [hW1, ← hz1]; exact Blk.new _ _ _
  have Q0 : Nw w W1 := p0.tr p1
  have b0 := b0.fr p1 (fun h => h)
  have z1 : (x.kind == y.kind) = (decide (x.kind = y.kind)) := rfl
  obtain ⟨d1, e1⟩ : ∃ d, (decide (x.kind = y.kind)) = d := ⟨_, rfl⟩
  simp only [e1] at z1 ⊢
  have z2 : (x.group == y.group) = (decide (x.group = y.group)) := rfl
  obtain ⟨d2, e2⟩ : ∃ d, (decide (x.group = y.group)) = d := ⟨_, rfl⟩
  simp only [e2] at z2 ⊢
  have z3 : (x.src == y.src) = (decide (x.src = y.src)) := rfl
  obtain ⟨d3, e3⟩ : ∃ d, (decide (x.src = y.src)) = d := ⟨_, rfl⟩
  simp only [e3] at z3 ⊢
  have z4 : (x.dst == y.dst) = (decide (x.dst = y.dst)) := rfl
  obtain ⟨d4, e4⟩ : ∃ d, (decide (x.dst = y.dst)) = d := ⟨_, rfl⟩
  simp only [e4] at z4 ⊢
  have z5 : (x.term == y.term) = (decide (x.term = y.term)) := rfl
  obtain ⟨d5, e5⟩ : ∃ d, (decide (x.term = y.term)) = d := ⟨_, rfl⟩
  simp only [e5] at z5 ⊢
  have z6 : (x.index == y.index) = (decide (x.index = y.index)) := rfl
  obtain ⟨d6, e6⟩ : ∃ d, (decide (x.index = y.index)) = d := ⟨_, rfl⟩
  simp only [e6] at z6 ⊢
  have z7 : (x.logt == y.logt) = (decide (x.logt = y.logt)) := rfl
  obtain ⟨d7, e7⟩ : ∃ d, (decide (x.logt = y.logt)) = d := ⟨_, rfl⟩
  simp only [e7] at z7 ⊢
  have z8 : (x.commit == y.commit) = (decide (x.commit = y.commit)) := rfl
  obtain ⟨d8, e8⟩ : ∃ d, (decide (x.commit = y.commit)) = d := ⟨_, rfl⟩
  simp only [e8] at z8 ⊢
  have z9 : (x.ok == y.ok) = (decide (x.ok = y.ok)) := beq_bool _ _
  obtain ⟨d9, e9⟩ : ∃ d, (decide (x.ok = y.ok)) = d := ⟨_, rfl⟩
  simp only [e9] at z9 ⊢
  have z10 : ∀ m : Later W1, Calls Tryz.prog 88 #[.slice x.ents.a x.ents.l.length x.ents.c, .slice y.ents.a y.ents.l.length y.ents.c] m.at_ fun e w' => e = .returned (.bool (decide (x.ents.l.map EntM.x = y.ents.l.map EntM.x))) ∧ Nw m.at_ w' := fun m => by
    have f := Q0.tr m.nw
    exact same_ents _ F1 F2 _ _ _ _ _ _ (hx.ents.nw f).sl (hy.ents.nw f).sl (fun e he => (hx.each e he).nw f) (fun e he => (hy.each e he).nw f) hz.each (by have := hz.ents; omega)
  obtain ⟨d10, e10⟩ : ∃ d, (decide (x.ents.l.map EntM.x = y.ents.l.map EntM.x)) = d := ⟨_, rfl⟩
  simp only [e10] at z10 ⊢
  have z11 : ∀ m : Later W1, Calls Tryz.prog 89 #[.agg #[I64 x.base.index, I64 x.base.term, .slice x.base.cfg.v.a x.base.cfg.v.l.length x.base.cfg.v.c, .slice x.base.cfg.o.a x.base.cfg.o.l.length x.base.cfg.o.c, .slice x.base.cfg.l.a x.base.cfg.l.l.length x.base.cfg.l.c, .slice x.base.cfg.w.a x.base.cfg.w.l.length x.base.cfg.w.c], .agg #[I64 y.base.index, I64 y.base.term, .slice y.base.cfg.v.a y.base.cfg.v.l.length y.base.cfg.v.c, .slice y.base.cfg.o.a y.base.cfg.o.l.length y.base.cfg.o.c, .slice y.base.cfg.l.a y.base.cfg.l.l.length y.base.cfg.l.c, .slice y.base.cfg.w.a y.base.cfg.w.l.length y.base.cfg.w.c]] m.at_ fun e w' => e = .returned (.bool (decide (x.base.x = y.base.x))) ∧ Nw m.at_ w' := fun m => by
    have f := Q0.tr m.nw
    exact same_bas _ F1 F2 _ _ (hx.cfg.nw f) (hy.cfg.nw f) hz.cfg
  obtain ⟨d11, e11⟩ : ∃ d, (decide (x.base.x = y.base.x)) = d := ⟨_, rfl⟩
  simp only [e11] at z11 ⊢
  have z12 : (x.size == y.size) = (decide (x.size = y.size)) := rfl
  obtain ⟨d12, e12⟩ : ∃ d, (decide (x.size = y.size)) = d := ⟨_, rfl⟩
  simp only [e12] at z12 ⊢
  have z13 : (x.at_ == y.at_) = (decide (x.at_ = y.at_)) := rfl
  obtain ⟨d13, e13⟩ : ∃ d, (decide (x.at_ = y.at_)) = d := ⟨_, rfl⟩
  simp only [e13] at z13 ⊢
  have z14 : (x.tag == y.tag) = (decide (x.tag = y.tag)) := rfl
  obtain ⟨d14, e14⟩ : ∃ d, (decide (x.tag = y.tag)) = d := ⟨_, rfl⟩
  simp only [e14] at z14 ⊢
  have z15 : ∀ m : Later W1, Calls Tryz.prog 34 #[.slice x.bytes.a x.bytes.l.length x.bytes.c, .slice y.bytes.a y.bytes.l.length y.bytes.c] m.at_ fun e w' => e = .returned (.bool (decide (x.bytes.l = y.bytes.l))) ∧ Nw m.at_ w' := fun m => by
    have f := Q0.tr m.nw
    exact (same_u8 _ F1 F2 _ _ _ _ _ _ (hx.bytes.nw f).sl (hy.bytes.nw f).sl (by have := hz.bytes; omega)).mono fun e w' h => ⟨h.1, h.2.fr _⟩
  obtain ⟨d15, e15⟩ : ∃ d, (decide (x.bytes.l = y.bytes.l)) = d := ⟨_, rfl⟩
  simp only [e15] at z15 ⊢
  have hS : ∀ w1, Nw W1 w1 → w1.cell? ⟨w.heap.size, 0, none⟩ = some (U8V x.kind) ∧ w1.cell? ⟨w.heap.size, 1, none⟩ = some (I64 x.group) ∧ w1.cell? ⟨w.heap.size, 2, none⟩ = some (I64 x.src) ∧ w1.cell? ⟨w.heap.size, 3, none⟩ = some (I64 x.dst) ∧ w1.cell? ⟨w.heap.size, 4, none⟩ = some (I64 x.term) ∧ w1.cell? ⟨w.heap.size, 5, none⟩ = some (I64 x.index) ∧ w1.cell? ⟨w.heap.size, 6, none⟩ = some (I64 x.logt) ∧ w1.cell? ⟨w.heap.size, 7, none⟩ = some (I64 x.commit) ∧ w1.cell? ⟨w.heap.size, 8, none⟩ = some (.bool x.ok) ∧ w1.cell? ⟨w.heap.size, 9, none⟩ = some (.slice x.ents.a x.ents.l.length x.ents.c) ∧ w1.cell? ⟨w.heap.size, 10, none⟩ = some (I64 x.base.index) ∧ w1.cell? ⟨w.heap.size, 11, none⟩ = some (I64 x.base.term) ∧ w1.cell? ⟨w.heap.size, 12, none⟩ = some (.slice x.base.cfg.v.a x.base.cfg.v.l.length x.base.cfg.v.c) ∧ w1.cell? ⟨w.heap.size, 13, none⟩ = some (.slice x.base.cfg.o.a x.base.cfg.o.l.length x.base.cfg.o.c) ∧ w1.cell? ⟨w.heap.size, 14, none⟩ = some (.slice x.base.cfg.l.a x.base.cfg.l.l.length x.base.cfg.l.c) ∧ w1.cell? ⟨w.heap.size, 15, none⟩ = some (.slice x.base.cfg.w.a x.base.cfg.w.l.length x.base.cfg.w.c) ∧ w1.cell? ⟨w.heap.size, 16, none⟩ = some (I64 x.size) ∧ w1.cell? ⟨w.heap.size, 17, none⟩ = some (I64 x.at_) ∧ w1.cell? ⟨w.heap.size, 18, none⟩ = some (I64 x.tag) ∧ w1.cell? ⟨w.heap.size, 19, none⟩ = some (.slice x.bytes.a x.bytes.l.length x.bytes.c) ∧ w1.cell? ⟨(w.heap.size + 1), 0, none⟩ = some (U8V y.kind) ∧ w1.cell? ⟨(w.heap.size + 1), 1, none⟩ = some (I64 y.group) ∧ w1.cell? ⟨(w.heap.size + 1), 2, none⟩ = some (I64 y.src) ∧ w1.cell? ⟨(w.heap.size + 1), 3, none⟩ = some (I64 y.dst) ∧ w1.cell? ⟨(w.heap.size + 1), 4, none⟩ = some (I64 y.term) ∧ w1.cell? ⟨(w.heap.size + 1), 5, none⟩ = some (I64 y.index) ∧ w1.cell? ⟨(w.heap.size + 1), 6, none⟩ = some (I64 y.logt) ∧ w1.cell? ⟨(w.heap.size + 1), 7, none⟩ = some (I64 y.commit) ∧ w1.cell? ⟨(w.heap.size + 1), 8, none⟩ = some (.bool y.ok) ∧ w1.cell? ⟨(w.heap.size + 1), 9, none⟩ = some (.slice y.ents.a y.ents.l.length y.ents.c) ∧ w1.cell? ⟨(w.heap.size + 1), 10, none⟩ = some (I64 y.base.index) ∧ w1.cell? ⟨(w.heap.size + 1), 11, none⟩ = some (I64 y.base.term) ∧ w1.cell? ⟨(w.heap.size + 1), 12, none⟩ = some (.slice y.base.cfg.v.a y.base.cfg.v.l.length y.base.cfg.v.c) ∧ w1.cell? ⟨(w.heap.size + 1), 13, none⟩ = some (.slice y.base.cfg.o.a y.base.cfg.o.l.length y.base.cfg.o.c) ∧ w1.cell? ⟨(w.heap.size + 1), 14, none⟩ = some (.slice y.base.cfg.l.a y.base.cfg.l.l.length y.base.cfg.l.c) ∧ w1.cell? ⟨(w.heap.size + 1), 15, none⟩ = some (.slice y.base.cfg.w.a y.base.cfg.w.l.length y.base.cfg.w.c) ∧ w1.cell? ⟨(w.heap.size + 1), 16, none⟩ = some (I64 y.size) ∧ w1.cell? ⟨(w.heap.size + 1), 17, none⟩ = some (I64 y.at_) ∧ w1.cell? ⟨(w.heap.size + 1), 18, none⟩ = some (I64 y.tag) ∧ w1.cell? ⟨(w.heap.size + 1), 19, none⟩ = some (.slice y.bytes.a y.bytes.l.length y.bytes.c) := fun w1 f => by
    have a0 := b0.fr f (fun h => h)
    have a1 := b1.fr f (fun h => h)
    exact ⟨by simpa using a0.cell 0, by simpa using a0.cell 1, by simpa using a0.cell 2, by simpa using a0.cell 3, by simpa using a0.cell 4, by simpa using a0.cell 5, by simpa using a0.cell 6, by simpa using a0.cell 7, by simpa using a0.cell 8, by simpa using a0.cell 9, by simpa using a0.cell 10, by simpa using a0.cell 11, by simpa using a0.cell 12, by simpa using a0.cell 13, by simpa using a0.cell 14, by simpa using a0.cell 15, by simpa using a0.cell 16, by simpa using a0.cell 17, by simpa using a0.cell 18, by simpa using a0.cell 19, by simpa using a1.cell 0, by simpa using a1.cell 1, by simpa using a1.cell 2, by simpa using a1.cell 3, by simpa using a1.cell 4, by simpa using a1.cell 5, by simpa using a1.cell 6, by simpa using a1.cell 7, by simpa using a1.cell 8, by simpa using a1.cell 9, by simpa using a1.cell 10, by simpa using a1.cell 11, by simpa using a1.cell 12, by simpa using a1.cell 13, by simpa using a1.cell 14, by simpa using a1.cell 15, by simpa using a1.cell 16, by simpa using a1.cell 17, by simpa using a1.cell 18, by simpa using a1.cell 19⟩
  have HW0 := Lib.hid hW0
  have HW1 := Lib.hid hW1
  clear hW0 b0 hW1 b1 e1 e2 e3 e4 e5 e6 e7 e8 e9 e10 e11 e12 e13 e14 e15
  go_enter Tryz.func38, Tryz.ntmps38
  go_upto_region 1 with (fail)
  rw [← HW0.out, ← HW1.out]
  obtain ⟨k0_0_0, k0_0_1, k0_0_2, k0_0_3, k0_0_4, k0_0_5, k0_0_6, k0_0_7, k0_0_8, k0_0_9, _, _, _, _, _, _, _, _, _, _, k0_1_0, k0_1_1, k0_1_2, k0_1_3, k0_1_4, k0_1_5, k0_1_6, k0_1_7, k0_1_8, k0_1_9, _, _, _, _, _, _, _, _, _, _⟩ := hS W1 (Fr.refl _ _)
  have HS := Lib.hid hS
  clear hS
  go_wp2_with fail
  any_goals (go_ret; exact ⟨ret_eq (congrArg Value.bool (by simp [*])), Q0.tr (Fr.refl (fun _ => False) W1)⟩)
  refine (z10 ⟨_, (Fr.refl (fun _ => False) W1)⟩).mono ?_
  rintro e v1 ⟨rfl, r1⟩
  have Q1 : Nw W1 v1 := (Fr.refl (fun _ => False) W1).tr r1
  obtain ⟨_, _, _, _, _, _, _, _, _, _, k1_0_10, k1_0_11, k1_0_12, k1_0_13, k1_0_14, k1_0_15, _, _, _, _, _, _, _, _, _, _, _, _, _, _, k1_1_10, k1_1_11, k1_1_12, k1_1_13, k1_1_14, k1_1_15, _, _, _, _⟩ := HS.out v1 Q1
  go_wp2_with fail
  any_goals (go_ret; exact ⟨ret_eq (congrArg Value.bool (by simp [*])), Q0.tr Q1⟩)
  refine (z11 ⟨_, Q1⟩).mono ?_
  rintro e v2 ⟨rfl, r2⟩
  have Q2 : Nw W1 v2 := Q1.tr r2
  obtain ⟨_, _, _, _, _, _, _, _, _, _, _, _, _, _, _, _, k2_0_16, k2_0_17, k2_0_18, k2_0_19, _, _, _, _, _, _, _, _, _, _, _, _, _, _, _, _, k2_1_16, k2_1_17, k2_1_18, k2_1_19⟩ := HS.out v2 Q2
  go_wp2_with fail
  any_goals (go_ret; exact ⟨ret_eq (congrArg Value.bool (by simp [*])), Q0.tr Q2⟩)
  refine (z15 ⟨_, Q2⟩).mono ?_
  rintro e v3 ⟨rfl, r3⟩
  have Q3 : Nw W1 v3 := Q2.tr r3
  go_wp2_with fail
  all_goals (go_ret; exact ⟨ret_eq (congrArg Value.bool (by simp [*])), Q0.tr Q3⟩)
end Go.Proofs.YtippdjaakcgeoaaGreat

namespace Go.Proofs.YtippdjaakcgeoaaGreat
open Go Go.RowKit
set_option linter.unusedVariables false
set_option linter.unusedSimpArgs false
def same_letsR (w : World) (xs ys : List LetM) (i : Value) (wr : World) : Prop := ∃ k : Nat, i = .int .i64 k ∧ k ≤ xs.length ∧ (xs.take k).map LetM.x = (ys.take k).map LetM.x ∧ Nw w wr
set_option maxRecDepth 100000 in
set_option maxHeartbeats 4000000 in
theorem same_lets (w : World) (F1 F2 : Nat → Prop) (A1 A2 : Option Addr) (c1 c2 : Nat) (xs ys : List LetM) (h1 : Sl w F1 A1 (letsC xs)) (h2 : Sl w F2 A2 (letsC ys)) (e1 : ∀ e ∈ xs, LetIn w F1 e) (e2 : ∀ e ∈ ys, LetIn w F2 e) (hz : ∀ e ∈ xs, LetSz e) (hm1 : xs.length ≤ 1000000000000) :
    Calls Tryz.prog 45 #[.slice A1 xs.length c1, .slice A2 ys.length c2] w fun e w' => e = .returned (.bool (decide (xs.map LetM.x = ys.map LetM.x))) ∧ Nw w w' := by
  by_cases hl : xs.length = ys.length
  · have hlen : ((xs.length : Int) != (ys.length : Int)) = false := by simp [hl]
    have HL := Lib.hid hl
    have HZ := Lib.hid hz
    have E1 := Lib.hid e1
    have E2 := Lib.hid e2
    clear hl hz e1 e2
    go_enter Tryz.func45, Tryz.ntmps45
    go_wp2_with fail
    go_loopw [5] (fun i wr => same_letsR w xs ys i wr) (fun i _ => xs.length - (intOf i).toNat)
    case atStart => exact ⟨0, rfl, Nat.zero_le _, rfl, Fr.refl _ _⟩
    case round =>
      obtain ⟨k, rfl, hk, ht, hq⟩ := hrel
      have HT := Lib.hid ht
      clear ht
      by_cases hlt : k < xs.length
      · have hlt2 : k < ys.length := by have := HL.out; omega
        obtain ⟨b1, o1, rfl, _, _, hc1⟩ := (h1.fr hq (fun _ _ h => h)).let_ hlt
        obtain ⟨b2, o2, rfl, _, _, hc2⟩ := (h2.fr hq (fun _ _ h => h)).let_ hlt2
        have hi1 : (k : Int) < (xs.length : Int) := by omega
        have hi2 : (k : Int) < (ys.length : Int) := by omega
        have x1 := (E1.out _ (List.getElem_mem hlt)).nw hq
        have x2 := (E2.out _ (List.getElem_mem hlt2)).nw hq
        have z1 := HZ.out _ (List.getElem_mem hlt)
        obtain ⟨x, hx⟩ : ∃ x, xs[k] = x := ⟨_, rfl⟩
        obtain ⟨y, hy⟩ : ∃ y, ys[k] = y := ⟨_, rfl⟩
        rw [hx] at x1 z1 hc1
        rw [hy] at x2 hc2
        have hsm : ∀ m : Later wr, Calls Tryz.prog 38 #[.agg #[U8V x.kind, I64 x.group, I64 x.src, I64 x.dst, I64 x.term, I64 x.index, I64 x.logt, I64 x.commit, .bool x.ok, .slice x.ents.a x.ents.l.length x.ents.c, I64 x.base.index, I64 x.base.term, .slice x.base.cfg.v.a x.base.cfg.v.l.length x.base.cfg.v.c, .slice x.base.cfg.o.a x.base.cfg.o.l.length x.base.cfg.o.c, .slice x.base.cfg.l.a x.base.cfg.l.l.length x.base.cfg.l.c, .slice x.base.cfg.w.a x.base.cfg.w.l.length x.base.cfg.w.c, I64 x.size, I64 x.at_, I64 x.tag, .slice x.bytes.a x.bytes.l.length x.bytes.c], .agg #[U8V y.kind, I64 y.group, I64 y.src, I64 y.dst, I64 y.term, I64 y.index, I64 y.logt, I64 y.commit, .bool y.ok, .slice y.ents.a y.ents.l.length y.ents.c, I64 y.base.index, I64 y.base.term, .slice y.base.cfg.v.a y.base.cfg.v.l.length y.base.cfg.v.c, .slice y.base.cfg.o.a y.base.cfg.o.l.length y.base.cfg.o.c, .slice y.base.cfg.l.a y.base.cfg.l.l.length y.base.cfg.l.c, .slice y.base.cfg.w.a y.base.cfg.w.l.length y.base.cfg.w.c, I64 y.size, I64 y.at_, I64 y.tag, .slice y.bytes.a y.bytes.l.length y.bytes.c]] m.at_ fun e w' => e = .returned (.bool (decide (x.x = y.x))) ∧ Nw m.at_ w' := fun m => same_let _ F1 F2 x y (x1.nw m.nw) (x2.nw m.nw) z1
        obtain ⟨d, hd⟩ : ∃ d, decide (x.x = y.x) = d := ⟨_, rfl⟩
        simp only [hd] at hsm
        have HD := Lib.hid hd
        have HX := Lib.hid hx
        have HY := Lib.hid hy
        have HSM := Lib.hid hsm
        have hC1 := Later.cells hc1
        have hC2 := Later.cells hc2
        have L1 := Lib.hid hC1
        have L2 := Lib.hid hC2
        clear hc1 hc2 hC1 hC2 hd hx hy hsm x1 x2 z1
        go_wp2_with fail
        refine wp_region_later (by kernel_rfl) (by kernel_rfl) ?_
        repeat (first | (refine quiet_load_cells (by rfl) 50 _ rfl b1 (o1 + k * 20) rfl _ _ L1.out Tryz.underlying50 rfl (by kernel_rfl) ?_; simp only [Act.put, List.setIfInBounds_toArray, List.set_cons_succ, List.set_cons_zero]) | (refine quiet_load_cells (by rfl) 50 _ rfl b2 (o2 + k * 20) rfl _ _ L2.out Tryz.underlying50 rfl (by kernel_rfl) ?_; simp only [Act.put, List.setIfInBounds_toArray, List.set_cons_succ, List.set_cons_zero]) | go_big_quiet_step ((go_at_call 38; exact Later.call (HSM.out _))))
        refine wpQuiet_later fun w5 q5 => ?_
        cases d with
        | false =>
          go_wp2_with fail
          go_ret
          refine ⟨ret_eq (congrArg Value.bool (decide_eq_false fun h => ?_).symm), hq.tr q5⟩
          have h3 := congrArg (fun l => l[k]?) h
          simp only [List.getElem?_map, List.getElem?_eq_getElem hlt, List.getElem?_eq_getElem hlt2, Option.map_some] at h3
          injection h3 with h3
          rw [HX.out, HY.out] at h3
          exact of_decide_eq_false HD.out h3
        | true =>
          go_wp2_with fail
          go_roundw
          case rel =>
            refine ⟨k + 1, by go_num, by omega, ?_, hq.tr q5⟩
            rw [List.take_succ_eq_append_getElem hlt, List.take_succ_eq_append_getElem hlt2, List.map_append, List.map_append, HT.out, HX.out, HY.out]
            congr 1
            rw [List.map_singleton, List.map_singleton, of_decide_eq_true HD.out]
          case measure => simp [intOf]; omega
      · go_wp2_with fail
        go_ret
        have hx : xs.map LetM.x = ys.map LetM.x := by
          have := HT.out
          rwa [List.take_of_length_le (by omega), List.take_of_length_le (by have := HL.out; omega)] at this
        exact ⟨ret_eq (congrArg Value.bool (decide_eq_true hx).symm), hq⟩
  · have hlen : ((xs.length : Int) != (ys.length : Int)) = true := by simp; omega
    go_enter Tryz.func45, Tryz.ntmps45
    go_wp2_with fail
    go_ret
    exact ⟨ret_eq (congrArg Value.bool (decide_eq_false fun h => hl (by have := congrArg List.length h; simpa using this)).symm), Fr.refl _ _⟩
end Go.Proofs.YtippdjaakcgeoaaGreat

namespace Go.Proofs.YtippdjaakcgeoaaGreat
open Go Go.RowKit
set_option linter.unusedVariables false
set_option linter.unusedSimpArgs false

def smR (w : World) (i : Value) (wr : World) : Prop := ∃ k : Nat, k ≤ 7 ∧ i = .int .i64 (k : Nat) ∧ Nw w wr
theorem way_small (a b : Nat) (ha : a ≤ 7) (hb : b ≤ 7) : NmWf ((a : Int), (b : Int)) := by
  constructor
  · simp [Lit.wf, IntKind.min, IntKind.max, IntKind.signed, IntKind.bits]; omega
  · simp [Lit.wf, IntKind.min, IntKind.max, IntKind.signed, IntKind.bits]; omega
set_option maxRecDepth 100000 in
set_option maxHeartbeats 4000000 in
theorem same25_any (w : World) (col : Nat → Nat) (cn cd gn gd N : Nat) (hcn : cn ≠ 0) (hcd : cd ≠ 0) (hN : N < 90000000) (h : Duo w col cn cd gn gd N) :
    Calls Tryz.prog 15 #[.pointer (some ⟨gn, 0, none⟩), .pointer (some ⟨gd, 0, none⟩)] w fun e w' => e = .returned (.bool true) ∧ Nw w w' := by
  obtain ⟨p, L, hn, hd, hr⟩ := h
  have hll := hd.len
  have hm : ∀ m : Later w, Calls Tryz.prog 22 #[.pointer (some ⟨gn, 0, none⟩)] m.at_ fun e w' => e = .returned (I64 (L.length : Nat)) ∧ Nw m.at_ w' := fun m => nMany hcn (hn.nw m.nw hcn) L hr (by omega)
  obtain ⟨X, hx1, hx2, hx3, hx4⟩ := id hd
  have hxl : X.r.l.length = L.length := by rw [← hx3, List.length_map]
  have k0 : ∀ m : Later w, m.at_.cell? ⟨gd, 0, none⟩ = some (.slice X.r.a L.length X.r.c) := fun m => by
    have h9 := (hx1.blk.fr m.nw (fun h => h)).cell 0
    rw [hx2] at h9
    have e9 : (#[X.r.v] : Array Value)[0]? = some (.slice X.r.a X.r.l.length X.r.c) := rfl
    rw [e9, hxl] at h9
    exact h9
  obtain ⟨Ln, hLn⟩ : ∃ Ln, Ln = L.length := ⟨_, rfl⟩
  rw [← hLn] at hm k0
  have HM := Lib.hid hm
  have HR := Lib.hid hr
  have hsm : ∀ w1 (q1 : Nw w w1) (a b : Nat), a ≤ 7 → b ≤ 7 → Calls Tryz.prog 17 #[.pointer (some ⟨gn, 0, none⟩), I64 (a : Nat), I64 (b : Nat)] w1 fun e w' => ∃ A c n, e = .returned (.slice A n c) ∧ Nw w1 w' ∧ ∀ w2, Nw w' w2 → Calls Tryz.prog 59 #[.pointer (some ⟨gd, 0, none⟩), I64 (a : Nat), I64 (b : Nat)] w2 fun e w' => ∃ A2 c2 n2, e = .returned (.slice A2 n2 c2) ∧ Nw w2 w' ∧ Calls Tryz.prog 45 #[.slice A n c, .slice A2 n2 c2] w' fun e w'' => e = .returned (.bool true) ∧ Nw w' w'' := fun w1 q1 a b ha hb => by
    refine (nWaiting hcn (hn.nw q1 hcn) a b (way_small a b ha hb)).mono fun e w' hh => ?_
    obtain ⟨A, c, ys, rfl, ey, oy, hy, zy, q2, _⟩ := hh
    refine ⟨A, c, _, rfl, q2, fun w2 q3 => ?_⟩
    refine (vWaiting (hd.nw ((q1.tr q2).tr q3) hcd) hN a b).mono fun e w'' hh => ?_
    obtain ⟨A2, c2, zs, rfl, ez, oz, hz, zz, q4⟩ := hh
    refine ⟨A2, c2, _, rfl, q4, ?_⟩
    have hs := same_lets w'' (fun _ => True) (fun _ => True) A A2 c c2 ys zs ((oy.sl.fr (q3.tr q4) (fun _ _ h => h)).mono (fun _ _ _ => trivial)) oz (fun x hx => ((hy.each x hx).nw (q3.tr q4)).mono (fun _ _ _ => trivial)) hz zy (by
      have h9 := (hn.ok ((a : Int), (b : Int))).2
      rw [← ey, List.length_map] at h9
      omega)
    rw [decide_eq_true (by rw [ey, ez]; exact HR.out _)] at hs
    exact hs
  have HSM := Lib.hid hsm
  clear hm hr hsm hx1 hx2 hx3 hx4 hxl hLn hd hn hll
  go_enter Tryz.func15, Tryz.ntmps15
  go_upto_region 1 with (fail)
  refine wp_region_later (by kernel_rfl) (by kernel_rfl) ?_
  repeat (go_big_quiet_step ((go_at_call 22; exact Later.call (HM.out _))))
  refine wpQuiet_later fun w5 q5 => ?_
  go_wp2_with fail
  go_loopw [5] (fun i wr => smR w i wr) (fun i _ => 7 - (intOf i).toNat)
  case atStart => exact ⟨0, by omega, rfl, q5⟩
  case round =>
    clear q5
    obtain ⟨k, hk, rfl, hq⟩ := hrel
    obtain ⟨w0, hw0⟩ : ∃ w0, w0 = wr := ⟨_, rfl⟩
    rw [← hw0] at hq ⊢
    clear hw0
    by_cases hlt : k < 7
    · have hi0 : (k : Int) < 7 := by omega
      go_wp2_with fail
      go_loopw [6] (fun i wr => smR w i wr) (fun i _ => 7 - (intOf i).toNat)
      case atStart => exact ⟨0, by omega, rfl, hq⟩
      case round =>
        clear hq
        obtain ⟨k2, hk2, rfl, hq⟩ := hrel
        by_cases hlt2 : k2 < 7
        · have hj0 : (k2 : Int) < 7 := by omega
          have hw1 := HSM.out wr hq k k2 hk hk2
          go_wp2_with (first | (go_at_call 17; refine hw1.mono ?_; rintro e w1 ⟨A1, c1, n1, rfl, q1, hv⟩) | (go_at_call 59; refine (hv w1 (Fr.refl _ _)).mono ?_; rintro e w2 ⟨A2, c2, n2, rfl, q2, hs⟩) | (go_at_call 45; refine hs.mono ?_; rintro e w3 ⟨rfl, q3⟩))
          go_roundw
          case rel => exact ⟨k2 + 1, hlt2, by go_num, hq.tr ((q1.tr q2).tr q3)⟩
          case measure => simp [intOf]; omega
        · obtain rfl : k2 = 7 := by omega
          go_wp2_with fail
          go_roundw
          case rel => exact ⟨k + 1, hlt, by go_num, hq⟩
          case measure => simp [intOf]; omega
    · obtain rfl : k = 7 := by omega
      go_wp2_with fail
      go_ret
      exact ⟨rfl, hq⟩
end Go.Proofs.YtippdjaakcgeoaaGreat
