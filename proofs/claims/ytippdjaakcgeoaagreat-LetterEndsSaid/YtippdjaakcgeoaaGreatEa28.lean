/- Lemmas of the walks: ClB, ClC, ClD, TkH. (Laid together by shake.py.) -/
import Derived.Deep.DeepCutAuto
import Derived.Deep.RegionHeld3
import Derived.Test.YtippdjaakcgeoaaGreatEa03
import Derived.Test.YtippdjaakcgeoaaGreatEa08
import Derived.Test.YtippdjaakcgeoaaGreatEa20
set_option linter.unusedVariables false
set_option linter.unusedSimpArgs false
set_option maxRecDepth 100000
set_option maxHeartbeats 16000000
namespace Go.Proofs.YtippdjaakcgeoaaGreat
open Go Go.RowKit
theorem zeD (w : World) (F1 F2 : Nat → Prop) (A1 A2 : Option Addr) (c1 c2 : Nat) (xs ys : List Int) (h1 : Sl w F1 A1 (zac xs)) (h2 : Sl w F2 A2 (zac ys)) (hm1 : xs.length ≤ 1000000000000) :
  Calls Tryz.prog 82 #[.slice A1 xs.length c1, .slice A2 ys.length c2] w fun e w' => e = .returned (.bool (decide (xs = ys))) ∧ Nw w w' := by
 by_cases hl : xs.length = ys.length
 ·have hlen : ((xs.length : Int) != (ys.length : Int)) = false := by simp [hl]
  have HL := Lib.hid hl
  clear hl
  go_enter Tryz.func82, Tryz.ntmps82
  go_wp2
  go_loopw [13] (fun i wr => zkS w xs ys i wr) (fun i _ => xs.length - (intOf i).toNat)
  case atStart => exact ⟨0, rfl, Nat.zero_le _, rfl, Fr.refl _ _⟩
  case round =>
   obtain ⟨k, rfl, hk, ht, hq⟩ := hrel
   have HT := Lib.hid ht
   clear ht
   by_cases hlt : k < xs.length
   ·have hlt2 : k < ys.length := by have := HL.out; omega
    obtain ⟨b1, o1, rfl, _, hc1⟩ := (h1.fr hq (fun _ _ h => h)).get hlt
    obtain ⟨b2, o2, rfl, _, hc2⟩ := (h2.fr hq (fun _ _ h => h)).get hlt2
    have hi1 : (k : Int) < (xs.length : Int) := by omega
    have hi2 : (k : Int) < (ys.length : Int) := by omega
    go_wp2
    go_quiet (fail)
    by_cases heq : (xs[k] != ys[k]) = false
    rotate_left
    ·have hne : (xs[k] != ys[k]) = true := by simpa using heq
     clear heq
     go_wp2
     go_ret
     refine ⟨zad (congrArg Value.bool (decide_eq_false ?_).symm), hq.drewN _⟩
     rintro rfl
     simp at hne
    ·go_wp2
     go_roundw
     case rel =>
      refine ⟨k + 1, by go_num, by omega, ?_, hq.drewN _⟩
      rw [List.take_succ_eq_append_getElem hlt, List.take_succ_eq_append_getElem hlt2, HT.out]
      congr 2
      simpa using heq
     case measure => simp [intOf]; omega
   ·go_wp2
    go_ret
    have hx : xs = ys := by
     have := HT.out
     rwa [List.take_of_length_le (by omega), List.take_of_length_le (by have := HL.out; omega)] at this
    exact ⟨zad (congrArg Value.bool (decide_eq_true hx).symm), hq⟩
 ·have hlen : ((xs.length : Int) != (ys.length : Int)) = true := by simp; omega
  go_enter Tryz.func82, Tryz.ntmps82
  go_wp2
  go_ret
  exact ⟨zad (congrArg Value.bool (decide_eq_false fun h => hl (by rw [h])).symm), Fr.refl _ _⟩
theorem zgc (w : World) (F1 F2 : Nat → Prop) (A1 A2 : Option Addr) (c1 c2 : Nat) (xs ys : List UInt8) (h1 : Sl w F1 A1 (xs.map B8)) (h2 : Sl w F2 A2 (ys.map B8)) :
  Calls Tryz.prog 87 #[.slice A1 xs.length c1, .slice A2 ys.length c2] w fun e w' => e = .returned (.bool (decide (xs = ys))) ∧ Nw w w' := by
 have t1 := zfN w F1 A1 c1 xs h1
 have t2 := zfN w F2 A2 c2 ys h2
 have hbe : (xs == ys) = decide (xs = ys) := by rw [Bool.eq_iff_iff]; simp
 have HB := Lib.hid hbe
 clear hbe
 go_enter Tryz.func87, Tryz.ntmps87
 go_wp2_with fail
 go_ret
 exact ⟨by simp [HB.out], Fr.refl _ w⟩
theorem ziH (w : World) (F1 F2 : Nat → Prop) (x y : CfgM) (hx : zaD w F1 x) (hy : zaD w F2 y) (hz : zaY x) :
  Calls Tryz.prog 86 #[.agg (cfgA x), .agg (cfgA y)] w fun e w' => e = .returned (.bool (decide (x.x = y.x))) ∧ Nw w w' := by
 rw [zkI]
 obtain ⟨W0, hW0⟩ : ∃ W, W = w.alloc (.cells (cfgA x) 45) := ⟨_, rfl⟩
 have p0 : Nw w W0 := by rw [hW0]; exact (Fr.refl (fun _ => False) _).alloc _
 have b0 : Blk W0 w.heap.size 45 (cfgA x) := by rw [hW0]; exact Blk.new _ _ _
 have hz1 : W0.heap.size = w.heap.size + 1 := by rw [hW0]; simp
 obtain ⟨W1, hW1⟩ : ∃ W, W = W0.alloc (.cells (cfgA y) 45) := ⟨_, rfl⟩
 have p1 : Nw W0 W1 := by rw [hW1]; exact (Fr.refl (fun _ => False) _).alloc _
 have b1 : Blk W1 (w.heap.size + 1) 45 (cfgA y) := by rw [hW1, ← hz1]; exact Blk.new _ _ _
 have Q0 : Nw w W1 := p0.tr p1
 have b0 := b0.fr p1 (fun h => h)
 have z1 : ∀ m : za0 W1, Calls Tryz.prog 82 #[.slice x.v.a x.v.l.length x.v.c, .slice y.v.a y.v.l.length y.v.c] m.at_ fun e w' => e = .returned (.bool (decide (x.v.l = y.v.l))) ∧ Nw m.at_ w' := fun m => by
  have f := Q0.tr m.nw
  exact zeD _ F1 F2 _ _ _ _ _ _ (hx.v.sl.fr f (fun _ _ h => h)) (hy.v.sl.fr f (fun _ _ h => h)) (by have := hz.v; omega)
 obtain ⟨d1, e1⟩ : ∃ d, (decide (x.v.l = y.v.l)) = d := ⟨_, rfl⟩
 simp only [e1] at z1 ⊢
 have z2 : ∀ m : za0 W1, Calls Tryz.prog 82 #[.slice x.o.a x.o.l.length x.o.c, .slice y.o.a y.o.l.length y.o.c] m.at_ fun e w' => e = .returned (.bool (decide (x.o.l = y.o.l))) ∧ Nw m.at_ w' := fun m => by
  have f := Q0.tr m.nw
  exact zeD _ F1 F2 _ _ _ _ _ _ (hx.o.sl.fr f (fun _ _ h => h)) (hy.o.sl.fr f (fun _ _ h => h)) (by have := hz.o; omega)
 obtain ⟨d2, e2⟩ : ∃ d, (decide (x.o.l = y.o.l)) = d := ⟨_, rfl⟩
 simp only [e2] at z2 ⊢
 have z3 : ∀ m : za0 W1, Calls Tryz.prog 82 #[.slice x.l.a x.l.l.length x.l.c, .slice y.l.a y.l.l.length y.l.c] m.at_ fun e w' => e = .returned (.bool (decide (x.l.l = y.l.l))) ∧ Nw m.at_ w' := fun m => by
  have f := Q0.tr m.nw
  exact zeD _ F1 F2 _ _ _ _ _ _ (hx.l.sl.fr f (fun _ _ h => h)) (hy.l.sl.fr f (fun _ _ h => h)) (by have := hz.l; omega)
 obtain ⟨d3, e3⟩ : ∃ d, (decide (x.l.l = y.l.l)) = d := ⟨_, rfl⟩
 simp only [e3] at z3 ⊢
 have z4 : ∀ m : za0 W1, Calls Tryz.prog 82 #[.slice x.w.a x.w.l.length x.w.c, .slice y.w.a y.w.l.length y.w.c] m.at_ fun e w' => e = .returned (.bool (decide (x.w.l = y.w.l))) ∧ Nw m.at_ w' := fun m => by
  have f := Q0.tr m.nw
  exact zeD _ F1 F2 _ _ _ _ _ _ (hx.w.sl.fr f (fun _ _ h => h)) (hy.w.sl.fr f (fun _ _ h => h)) (by have := hz.w; omega)
 obtain ⟨d4, e4⟩ : ∃ d, (decide (x.w.l = y.w.l)) = d := ⟨_, rfl⟩
 simp only [e4] at z4 ⊢
 have hS : ∀ w1, Nw W1 w1 → w1.cell? ⟨w.heap.size, 0, none⟩ = some (.slice x.v.a x.v.l.length x.v.c) ∧ w1.cell? ⟨w.heap.size, 1, none⟩ = some (.slice x.o.a x.o.l.length x.o.c) ∧ w1.cell? ⟨w.heap.size, 2, none⟩ = some (.slice x.l.a x.l.l.length x.l.c) ∧ w1.cell? ⟨w.heap.size, 3, none⟩ = some (.slice x.w.a x.w.l.length x.w.c) ∧ w1.cell? ⟨(w.heap.size + 1), 0, none⟩ = some (.slice y.v.a y.v.l.length y.v.c) ∧ w1.cell? ⟨(w.heap.size + 1), 1, none⟩ = some (.slice y.o.a y.o.l.length y.o.c) ∧ w1.cell? ⟨(w.heap.size + 1), 2, none⟩ = some (.slice y.l.a y.l.l.length y.l.c) ∧ w1.cell? ⟨(w.heap.size + 1), 3, none⟩ = some (.slice y.w.a y.w.l.length y.w.c) := fun w1 f => by
  have a0 := b0.fr f (fun h => h)
  have a1 := b1.fr f (fun h => h)
  exact ⟨by simpa using a0.cell 0, by simpa using a0.cell 1, by simpa using a0.cell 2, by simpa using a0.cell 3, by simpa using a1.cell 0, by simpa using a1.cell 1, by simpa using a1.cell 2, by simpa using a1.cell 3⟩
 have HW0 := Lib.hid hW0
 have HW1 := Lib.hid hW1
 clear hW0 b0 hW1 b1 e1 e2 e3 e4
 cases d1 with
 | false =>
  go_enter Tryz.func86, Tryz.ntmps86
  go_upto_region 1 with (fail)
  rw [← HW0.out, ← HW1.out]
  obtain ⟨k0_0_0, k0_0_1, k0_0_2, k0_0_3, k0_1_0, k0_1_1, k0_1_2, k0_1_3⟩ := hS W1 (Fr.refl _ _)
  go_wp2_with fail
  refine (z1 ⟨_, (Fr.refl (fun _ => False) W1)⟩).mono ?_
  rintro e v1 ⟨rfl, r1⟩
  have Q1 : Nw W1 v1 := (Fr.refl (fun _ => False) W1).tr r1
  obtain ⟨k1_0_0, k1_0_1, k1_0_2, k1_0_3, k1_1_0, k1_1_1, k1_1_2, k1_1_3⟩ := hS v1 Q1
  go_wp2_with fail
  go_ret
  exact ⟨rfl, Q0.tr Q1⟩
 | true =>
 cases d2 with
 | false =>
  go_enter Tryz.func86, Tryz.ntmps86
  go_upto_region 1 with (fail)
  rw [← HW0.out, ← HW1.out]
  obtain ⟨k0_0_0, k0_0_1, k0_0_2, k0_0_3, k0_1_0, k0_1_1, k0_1_2, k0_1_3⟩ := hS W1 (Fr.refl _ _)
  go_wp2_with fail
  refine (z1 ⟨_, (Fr.refl (fun _ => False) W1)⟩).mono ?_
  rintro e v1 ⟨rfl, r1⟩
  have Q1 : Nw W1 v1 := (Fr.refl (fun _ => False) W1).tr r1
  obtain ⟨k1_0_0, k1_0_1, k1_0_2, k1_0_3, k1_1_0, k1_1_1, k1_1_2, k1_1_3⟩ := hS v1 Q1
  go_wp2_with fail
  refine (z2 ⟨_, Q1⟩).mono ?_
  rintro e v2 ⟨rfl, r2⟩
  have Q2 : Nw W1 v2 := Q1.tr r2
  obtain ⟨k2_0_0, k2_0_1, k2_0_2, k2_0_3, k2_1_0, k2_1_1, k2_1_2, k2_1_3⟩ := hS v2 Q2
  go_wp2_with fail
  go_ret
  exact ⟨rfl, Q0.tr Q2⟩
 | true =>
 cases d3 with
 | false =>
  go_enter Tryz.func86, Tryz.ntmps86
  go_upto_region 1 with (fail)
  rw [← HW0.out, ← HW1.out]
  obtain ⟨k0_0_0, k0_0_1, k0_0_2, k0_0_3, k0_1_0, k0_1_1, k0_1_2, k0_1_3⟩ := hS W1 (Fr.refl _ _)
  go_wp2_with fail
  refine (z1 ⟨_, (Fr.refl (fun _ => False) W1)⟩).mono ?_
  rintro e v1 ⟨rfl, r1⟩
  have Q1 : Nw W1 v1 := (Fr.refl (fun _ => False) W1).tr r1
  obtain ⟨k1_0_0, k1_0_1, k1_0_2, k1_0_3, k1_1_0, k1_1_1, k1_1_2, k1_1_3⟩ := hS v1 Q1
  go_wp2_with fail
  refine (z2 ⟨_, Q1⟩).mono ?_
  rintro e v2 ⟨rfl, r2⟩
  have Q2 : Nw W1 v2 := Q1.tr r2
  obtain ⟨k2_0_0, k2_0_1, k2_0_2, k2_0_3, k2_1_0, k2_1_1, k2_1_2, k2_1_3⟩ := hS v2 Q2
  go_wp2_with fail
  refine (z3 ⟨_, Q2⟩).mono ?_
  rintro e v3 ⟨rfl, r3⟩
  have Q3 : Nw W1 v3 := Q2.tr r3
  obtain ⟨k3_0_0, k3_0_1, k3_0_2, k3_0_3, k3_1_0, k3_1_1, k3_1_2, k3_1_3⟩ := hS v3 Q3
  go_wp2_with fail
  go_ret
  exact ⟨rfl, Q0.tr Q3⟩
 | true =>
 cases d4 with
 | false =>
  go_enter Tryz.func86, Tryz.ntmps86
  go_upto_region 1 with (fail)
  rw [← HW0.out, ← HW1.out]
  obtain ⟨k0_0_0, k0_0_1, k0_0_2, k0_0_3, k0_1_0, k0_1_1, k0_1_2, k0_1_3⟩ := hS W1 (Fr.refl _ _)
  go_wp2_with fail
  refine (z1 ⟨_, (Fr.refl (fun _ => False) W1)⟩).mono ?_
  rintro e v1 ⟨rfl, r1⟩
  have Q1 : Nw W1 v1 := (Fr.refl (fun _ => False) W1).tr r1
  obtain ⟨k1_0_0, k1_0_1, k1_0_2, k1_0_3, k1_1_0, k1_1_1, k1_1_2, k1_1_3⟩ := hS v1 Q1
  go_wp2_with fail
  refine (z2 ⟨_, Q1⟩).mono ?_
  rintro e v2 ⟨rfl, r2⟩
  have Q2 : Nw W1 v2 := Q1.tr r2
  obtain ⟨k2_0_0, k2_0_1, k2_0_2, k2_0_3, k2_1_0, k2_1_1, k2_1_2, k2_1_3⟩ := hS v2 Q2
  go_wp2_with fail
  refine (z3 ⟨_, Q2⟩).mono ?_
  rintro e v3 ⟨rfl, r3⟩
  have Q3 : Nw W1 v3 := Q2.tr r3
  obtain ⟨k3_0_0, k3_0_1, k3_0_2, k3_0_3, k3_1_0, k3_1_1, k3_1_2, k3_1_3⟩ := hS v3 Q3
  go_wp2_with fail
  refine (z4 ⟨_, Q3⟩).mono ?_
  rintro e v4 ⟨rfl, r4⟩
  have Q4 : Nw W1 v4 := Q3.tr r4
  obtain ⟨k4_0_0, k4_0_1, k4_0_2, k4_0_3, k4_1_0, k4_1_1, k4_1_2, k4_1_3⟩ := hS v4 Q4
  go_wp2_with fail
  go_ret
  exact ⟨rfl, Q0.tr Q4⟩
 | true =>
 go_enter Tryz.func86, Tryz.ntmps86
 go_upto_region 1 with (fail)
 rw [← HW0.out, ← HW1.out]
 obtain ⟨k0_0_0, k0_0_1, k0_0_2, k0_0_3, k0_1_0, k0_1_1, k0_1_2, k0_1_3⟩ := hS W1 (Fr.refl _ _)
 go_wp2_with fail
 refine (z1 ⟨_, (Fr.refl (fun _ => False) W1)⟩).mono ?_
 rintro e v1 ⟨rfl, r1⟩
 have Q1 : Nw W1 v1 := (Fr.refl (fun _ => False) W1).tr r1
 obtain ⟨k1_0_0, k1_0_1, k1_0_2, k1_0_3, k1_1_0, k1_1_1, k1_1_2, k1_1_3⟩ := hS v1 Q1
 go_wp2_with fail
 refine (z2 ⟨_, Q1⟩).mono ?_
 rintro e v2 ⟨rfl, r2⟩
 have Q2 : Nw W1 v2 := Q1.tr r2
 obtain ⟨k2_0_0, k2_0_1, k2_0_2, k2_0_3, k2_1_0, k2_1_1, k2_1_2, k2_1_3⟩ := hS v2 Q2
 go_wp2_with fail
 refine (z3 ⟨_, Q2⟩).mono ?_
 rintro e v3 ⟨rfl, r3⟩
 have Q3 : Nw W1 v3 := Q2.tr r3
 obtain ⟨k3_0_0, k3_0_1, k3_0_2, k3_0_3, k3_1_0, k3_1_1, k3_1_2, k3_1_3⟩ := hS v3 Q3
 go_wp2_with fail
 refine (z4 ⟨_, Q3⟩).mono ?_
 rintro e v4 ⟨rfl, r4⟩
 have Q4 : Nw W1 v4 := Q3.tr r4
 obtain ⟨k4_0_0, k4_0_1, k4_0_2, k4_0_3, k4_1_0, k4_1_1, k4_1_2, k4_1_3⟩ := hS v4 Q4
 go_wp2_with fail
 go_ret
 exact ⟨rfl, Q0.tr Q4⟩
theorem zjG (w : World) (F1 F2 : Nat → Prop) (x y : EntM) (hx : zau w F1 x) (hy : zau w F2 y) (hz : zaW x) :
  Calls Tryz.prog 85 #[.agg (entA x), .agg (entA y)] w fun e w' => e = .returned (.bool (decide (x.x = y.x))) ∧ Nw w w' := by
 rw [zkK]
 obtain ⟨W0, hW0⟩ : ∃ W, W = w.alloc (.cells (entA x) 87) := ⟨_, rfl⟩
 have p0 : Nw w W0 := by rw [hW0]; exact (Fr.refl (fun _ => False) _).alloc _
 have b0 : Blk W0 w.heap.size 87 (entA x) := by rw [hW0]; exact Blk.new _ _ _
 have hz1 : W0.heap.size = w.heap.size + 1 := by rw [hW0]; simp
 obtain ⟨W1, hW1⟩ : ∃ W, W = W0.alloc (.cells (entA y) 87) := ⟨_, rfl⟩
 have p1 : Nw W0 W1 := by rw [hW1]; exact (Fr.refl (fun _ => False) _).alloc _
 have b1 : Blk W1 (w.heap.size + 1) 87 (entA y) := by rw [hW1, ← hz1]; exact Blk.new _ _ _
 have Q0 : Nw w W1 := p0.tr p1
 have b0 := b0.fr p1 (fun h => h)
 have z1 : (x.term == y.term) = (decide (x.term = y.term)) := rfl
 obtain ⟨d1, e1⟩ : ∃ d, (decide (x.term = y.term)) = d := ⟨_, rfl⟩
 simp only [e1] at z1 ⊢
 have z2 : (x.kind == y.kind) = (decide (x.kind = y.kind)) := rfl
 obtain ⟨d2, e2⟩ : ∃ d, (decide (x.kind = y.kind)) = d := ⟨_, rfl⟩
 simp only [e2] at z2 ⊢
 have z3 : ∀ m : za0 W1, Calls Tryz.prog 87 #[.slice x.cmd.a x.cmd.l.length x.cmd.c, .slice y.cmd.a y.cmd.l.length y.cmd.c] m.at_ fun e w' => e = .returned (.bool (decide (x.cmd.l = y.cmd.l))) ∧ Nw m.at_ w' := fun m => by
  have f := Q0.tr m.nw
  exact zgc _ F1 F2 _ _ _ _ _ _ (hx.cmd.sl.fr f (fun _ _ h => h)) (hy.cmd.sl.fr f (fun _ _ h => h))
 obtain ⟨d3, e3⟩ : ∃ d, (decide (x.cmd.l = y.cmd.l)) = d := ⟨_, rfl⟩
 simp only [e3] at z3 ⊢
 have z4 : ∀ m : za0 W1, Calls Tryz.prog 86 #[.agg (cfgA x.cfg), .agg (cfgA y.cfg)] m.at_ fun e w' => e = .returned (.bool (decide (x.cfg.x = y.cfg.x))) ∧ Nw m.at_ w' := fun m => by
  have f := Q0.tr m.nw
  exact ziH _ F1 F2 _ _ (hx.cfg.nw f) (hy.cfg.nw f) hz.cfg
 obtain ⟨d4, e4⟩ : ∃ d, (decide (x.cfg.x = y.cfg.x)) = d := ⟨_, rfl⟩
 simp only [e4] at z4 ⊢
 have hS : ∀ w1, Nw W1 w1 → w1.cell? ⟨w.heap.size, 0, none⟩ = some (I64 x.term) ∧ w1.cell? ⟨w.heap.size, 1, none⟩ = some (U8V x.kind) ∧ w1.cell? ⟨w.heap.size, 2, none⟩ = some (.slice x.cmd.a x.cmd.l.length x.cmd.c) ∧ w1.cell? ⟨w.heap.size, 3, none⟩ = some (.slice x.cfg.v.a x.cfg.v.l.length x.cfg.v.c) ∧ w1.cell? ⟨w.heap.size, 4, none⟩ = some (.slice x.cfg.o.a x.cfg.o.l.length x.cfg.o.c) ∧ w1.cell? ⟨w.heap.size, 5, none⟩ = some (.slice x.cfg.l.a x.cfg.l.l.length x.cfg.l.c) ∧ w1.cell? ⟨w.heap.size, 6, none⟩ = some (.slice x.cfg.w.a x.cfg.w.l.length x.cfg.w.c) ∧ w1.cell? ⟨(w.heap.size + 1), 0, none⟩ = some (I64 y.term) ∧ w1.cell? ⟨(w.heap.size + 1), 1, none⟩ = some (U8V y.kind) ∧ w1.cell? ⟨(w.heap.size + 1), 2, none⟩ = some (.slice y.cmd.a y.cmd.l.length y.cmd.c) ∧ w1.cell? ⟨(w.heap.size + 1), 3, none⟩ = some (.slice y.cfg.v.a y.cfg.v.l.length y.cfg.v.c) ∧ w1.cell? ⟨(w.heap.size + 1), 4, none⟩ = some (.slice y.cfg.o.a y.cfg.o.l.length y.cfg.o.c) ∧ w1.cell? ⟨(w.heap.size + 1), 5, none⟩ = some (.slice y.cfg.l.a y.cfg.l.l.length y.cfg.l.c) ∧ w1.cell? ⟨(w.heap.size + 1), 6, none⟩ = some (.slice y.cfg.w.a y.cfg.w.l.length y.cfg.w.c) := fun w1 f => by
  have a0 := b0.fr f (fun h => h)
  have a1 := b1.fr f (fun h => h)
  exact ⟨by simpa using a0.cell 0, by simpa using a0.cell 1, by simpa using a0.cell 2, by simpa using a0.cell 3, by simpa using a0.cell 4, by simpa using a0.cell 5, by simpa using a0.cell 6, by simpa using a1.cell 0, by simpa using a1.cell 1, by simpa using a1.cell 2, by simpa using a1.cell 3, by simpa using a1.cell 4, by simpa using a1.cell 5, by simpa using a1.cell 6⟩
 have HW0 := Lib.hid hW0
 have HW1 := Lib.hid hW1
 clear hW0 b0 hW1 b1 e1 e2 e3 e4
 cases d1 with
 | false =>
  go_enter Tryz.func85, Tryz.ntmps85
  go_upto_region 1 with (fail)
  rw [← HW0.out, ← HW1.out]
  obtain ⟨k0_0_0, k0_0_1, k0_0_2, k0_0_3, k0_0_4, k0_0_5, k0_0_6, k0_1_0, k0_1_1, k0_1_2, k0_1_3, k0_1_4, k0_1_5, k0_1_6⟩ := hS W1 (Fr.refl _ _)
  go_wp2_with fail
  go_ret
  exact ⟨rfl, Q0.tr (Fr.refl (fun _ => False) W1)⟩
 | true =>
 cases d2 with
 | false =>
  go_enter Tryz.func85, Tryz.ntmps85
  go_upto_region 1 with (fail)
  rw [← HW0.out, ← HW1.out]
  obtain ⟨k0_0_0, k0_0_1, k0_0_2, k0_0_3, k0_0_4, k0_0_5, k0_0_6, k0_1_0, k0_1_1, k0_1_2, k0_1_3, k0_1_4, k0_1_5, k0_1_6⟩ := hS W1 (Fr.refl _ _)
  go_wp2_with fail
  go_ret
  exact ⟨rfl, Q0.tr (Fr.refl (fun _ => False) W1)⟩
 | true =>
 cases d3 with
 | false =>
  go_enter Tryz.func85, Tryz.ntmps85
  go_upto_region 1 with (fail)
  rw [← HW0.out, ← HW1.out]
  obtain ⟨k0_0_0, k0_0_1, k0_0_2, k0_0_3, k0_0_4, k0_0_5, k0_0_6, k0_1_0, k0_1_1, k0_1_2, k0_1_3, k0_1_4, k0_1_5, k0_1_6⟩ := hS W1 (Fr.refl _ _)
  go_wp2_with fail
  refine (z3 ⟨_, (Fr.refl (fun _ => False) W1)⟩).mono ?_
  rintro e v1 ⟨rfl, r1⟩
  have Q1 : Nw W1 v1 := (Fr.refl (fun _ => False) W1).tr r1
  obtain ⟨k1_0_0, k1_0_1, k1_0_2, k1_0_3, k1_0_4, k1_0_5, k1_0_6, k1_1_0, k1_1_1, k1_1_2, k1_1_3, k1_1_4, k1_1_5, k1_1_6⟩ := hS v1 Q1
  go_wp2_with fail
  go_ret
  exact ⟨rfl, Q0.tr Q1⟩
 | true =>
 cases d4 with
 | false =>
  go_enter Tryz.func85, Tryz.ntmps85
  go_upto_region 1 with (fail)
  rw [← HW0.out, ← HW1.out]
  obtain ⟨k0_0_0, k0_0_1, k0_0_2, k0_0_3, k0_0_4, k0_0_5, k0_0_6, k0_1_0, k0_1_1, k0_1_2, k0_1_3, k0_1_4, k0_1_5, k0_1_6⟩ := hS W1 (Fr.refl _ _)
  go_wp2_with fail
  refine (z3 ⟨_, (Fr.refl (fun _ => False) W1)⟩).mono ?_
  rintro e v1 ⟨rfl, r1⟩
  have Q1 : Nw W1 v1 := (Fr.refl (fun _ => False) W1).tr r1
  obtain ⟨k1_0_0, k1_0_1, k1_0_2, k1_0_3, k1_0_4, k1_0_5, k1_0_6, k1_1_0, k1_1_1, k1_1_2, k1_1_3, k1_1_4, k1_1_5, k1_1_6⟩ := hS v1 Q1
  go_wp2_with fail
  refine (z4 ⟨_, Q1⟩).mono ?_
  rintro e v2 ⟨rfl, r2⟩
  have Q2 : Nw W1 v2 := Q1.tr r2
  obtain ⟨k2_0_0, k2_0_1, k2_0_2, k2_0_3, k2_0_4, k2_0_5, k2_0_6, k2_1_0, k2_1_1, k2_1_2, k2_1_3, k2_1_4, k2_1_5, k2_1_6⟩ := hS v2 Q2
  go_wp2_with fail
  go_ret
  exact ⟨rfl, Q0.tr Q2⟩
 | true =>
 go_enter Tryz.func85, Tryz.ntmps85
 go_upto_region 1 with (fail)
 rw [← HW0.out, ← HW1.out]
 obtain ⟨k0_0_0, k0_0_1, k0_0_2, k0_0_3, k0_0_4, k0_0_5, k0_0_6, k0_1_0, k0_1_1, k0_1_2, k0_1_3, k0_1_4, k0_1_5, k0_1_6⟩ := hS W1 (Fr.refl _ _)
 go_wp2_with fail
 refine (z3 ⟨_, (Fr.refl (fun _ => False) W1)⟩).mono ?_
 rintro e v1 ⟨rfl, r1⟩
 have Q1 : Nw W1 v1 := (Fr.refl (fun _ => False) W1).tr r1
 obtain ⟨k1_0_0, k1_0_1, k1_0_2, k1_0_3, k1_0_4, k1_0_5, k1_0_6, k1_1_0, k1_1_1, k1_1_2, k1_1_3, k1_1_4, k1_1_5, k1_1_6⟩ := hS v1 Q1
 go_wp2_with fail
 refine (z4 ⟨_, Q1⟩).mono ?_
 rintro e v2 ⟨rfl, r2⟩
 have Q2 : Nw W1 v2 := Q1.tr r2
 obtain ⟨k2_0_0, k2_0_1, k2_0_2, k2_0_3, k2_0_4, k2_0_5, k2_0_6, k2_1_0, k2_1_1, k2_1_2, k2_1_3, k2_1_4, k2_1_5, k2_1_6⟩ := hS v2 Q2
 go_wp2_with fail
 go_ret
 exact ⟨rfl, Q0.tr Q2⟩
open Go Go.RowKit
def zcc (x : LetM) : List Int := [x.kind, x.group, x.src, x.dst, x.term, x.index, x.logt, x.commit, x.base.index, x.base.term, x.size, x.at_, x.tag]
theorem zfk (w : World) (F : Nat → Prop) (x : LetM) (hx : za3 w F x) :
  Calls Tryz.prog 83 #[.agg (letA x)] w fun e w' => ∃ g, e = .returned (.slice (some ⟨g, 0, none⟩) 13 13) ∧ w.heap.size ≤ g ∧ g < w'.heap.size ∧ Sl w' (· = g) (some ⟨g, 0, none⟩) (zac (zcc x)) ∧ Nw w w' := by
 obtain ⟨G, hG⟩ : ∃ G, G = w.heap.size := ⟨_, rfl⟩
 obtain ⟨W0, hW0⟩ : ∃ W, W = w.alloc (.cells (letA x) 50) := ⟨_, rfl⟩
 have p0 : Nw w W0 := by rw [hW0]; exact (Fr.refl (fun _ => False) _).alloc _
 have b0 : Blk W0 G 50 (letA x) := by rw [hW0, hG]; exact Blk.new _ _ _
 have hGw : w.heap.size ≤ G := by omega
 have hkd := hx.kind
 have hcv : IntKind.i64.wrap x.kind = x.kind := IntWalk.i64_in _ (by omega)
 have k0 : W0.cell? ⟨G, 0, none⟩ = some (U8V x.kind) := by simpa using b0.cell 0
 have k1 : W0.cell? ⟨G, 1, none⟩ = some (I64 x.group) := by simpa using b0.cell 1
 have k2 : W0.cell? ⟨G, 2, none⟩ = some (I64 x.src) := by simpa using b0.cell 2
 have k3 : W0.cell? ⟨G, 3, none⟩ = some (I64 x.dst) := by simpa using b0.cell 3
 have k4 : W0.cell? ⟨G, 4, none⟩ = some (I64 x.term) := by simpa using b0.cell 4
 have k5 : W0.cell? ⟨G, 5, none⟩ = some (I64 x.index) := by simpa using b0.cell 5
 have k6 : W0.cell? ⟨G, 6, none⟩ = some (I64 x.logt) := by simpa using b0.cell 6
 have k7 : W0.cell? ⟨G, 7, none⟩ = some (I64 x.commit) := by simpa using b0.cell 7
 have k10 : W0.cell? ⟨G, 10, none⟩ = some (I64 x.base.index) := by simpa using b0.cell 10
 have k11 : W0.cell? ⟨G, 11, none⟩ = some (I64 x.base.term) := by simpa using b0.cell 11
 have k16 : W0.cell? ⟨G, 16, none⟩ = some (I64 x.size) := by simpa using b0.cell 16
 have k17 : W0.cell? ⟨G, 17, none⟩ = some (I64 x.at_) := by simpa using b0.cell 17
 have k18 : W0.cell? ⟨G, 18, none⟩ = some (I64 x.tag) := by simpa using b0.cell 18
 have HG := Lib.hid hG
 have HW0 := Lib.hid hW0
 clear hG hW0 b0 hx
 go_enter Tryz.func83, Tryz.ntmps83
 go_upto_region 1 with (fail)
 rw [← HW0.out, ← HG.out]
 go_wp2_with fail
 go_ret
 refine ⟨W0.heap.size, rfl, p0.size, by simp, ?_, p0.tr ((Fr.refl (fun _ => False) W0).alloc _)⟩
 exact zaI W0 3 [I64 x.kind, I64 x.group, I64 x.src, I64 x.dst, I64 x.term, I64 x.index, I64 x.logt, I64 x.commit, I64 x.base.index, I64 x.base.term, I64 x.size, I64 x.at_, I64 x.tag] _ rfl
open Go Go.RowKit
def lentsR (w : World) (xs ys : List EntM) (i : Value) (wr : World) : Prop := ∃ k : Nat, i = .int .i64 k ∧ k ≤ xs.length ∧ (xs.take k).map EntM.x = (ys.take k).map EntM.x ∧ Nw w wr
theorem zkV (w : World) (F1 F2 : Nat → Prop) (A1 A2 : Option Addr) (c1 c2 : Nat) (xs ys : List EntM) (h1 : Sl w F1 A1 (zal xs)) (h2 : Sl w F2 A2 (zal ys)) (e1 : ∀ e ∈ xs, zau w F1 e) (e2 : ∀ e ∈ ys, zau w F2 e) (hz : ∀ e ∈ xs, zaW e) (hm1 : xs.length ≤ 1000000000000) :
  Calls Tryz.prog 84 #[.slice A1 xs.length c1, .slice A2 ys.length c2, .func (.func 85) #[] #[]] w fun e w' => e = .returned (.bool (decide (xs.map EntM.x = ys.map EntM.x))) ∧ Nw w w' := by
 by_cases hl : xs.length = ys.length
 ·have hlen : ((xs.length : Int) != (ys.length : Int)) = false := by simp [hl]
  have HL := Lib.hid hl
  have HZ := Lib.hid hz
  have E1 := Lib.hid e1
  have E2 := Lib.hid e2
  clear hl hz e1 e2
  go_enter Tryz.func84, Tryz.ntmps84
  go_wp2_with fail
  go_loopw [17] (fun i wr => lentsR w xs ys i wr) (fun i _ => xs.length - (intOf i).toNat)
  case atStart => exact ⟨0, rfl, Nat.zero_le _, rfl, Fr.refl _ _⟩
  case round =>
   obtain ⟨k, rfl, hk, ht, hq⟩ := hrel
   have HT := Lib.hid ht
   clear ht
   by_cases hlt : k < xs.length
   ·have hlt2 : k < ys.length := by have := HL.out; omega
    obtain ⟨b1, o1, rfl, _, _, hc1⟩ := (h1.fr hq (fun _ _ h => h)).ent hlt
    obtain ⟨b2, o2, rfl, _, _, hc2⟩ := (h2.fr hq (fun _ _ h => h)).ent hlt2
    have hi1 : (k : Int) < (xs.length : Int) := by omega
    have hi2 : (k : Int) < (ys.length : Int) := by omega
    have x1 := (E1.out _ (List.getElem_mem hlt)).nw hq
    have x2 := (E2.out _ (List.getElem_mem hlt2)).nw hq
    have z1 := HZ.out _ (List.getElem_mem hlt)
    obtain ⟨x, hx⟩ : ∃ x, xs[k] = x := ⟨_, rfl⟩
    obtain ⟨y, hy⟩ : ∃ y, ys[k] = y := ⟨_, rfl⟩
    rw [hx] at x1 z1 hc1
    rw [hy] at x2 hc2
    obtain ⟨G, hG⟩ : ∃ G, G = wr.heap.size := ⟨_, rfl⟩
    obtain ⟨V0, hV0⟩ : ∃ V, V = wr.alloc (.cells zE9A 87) := ⟨_, rfl⟩
    have qv0 : Nw wr V0 := by rw [hV0]; exact (Fr.refl (fun _ => False) wr).alloc _
    have g0 : Blk V0 G 87 zE9A := by rw [hV0, hG]; exact Blk.new _ _ _
    obtain ⟨V1, hV1⟩ : ∃ V, V = V0.setCells G 0 (entL x) := ⟨_, rfl⟩
    have g1 : Blk V1 G 87 (entA x) := by rw [hV1]; exact Blk.setCells (l := zE9L) g0 0 (entL x)
    have m1 : Fr (· = G) V0 V1 := by rw [hV1]; exact (Fr.refl (· = G) _).setCells _ _
    have qv1 : Nw wr V1 := qv0.new m1 (fun b hb => by omega)
    have th1 := Blk.there (l := zE9L) g0 0 7 (by show 0 + 7 ≤ 7; omega)
    have one1 := zbo x
    obtain ⟨H, hH⟩ : ∃ H, H = V1.heap.size := ⟨_, rfl⟩
    obtain ⟨V2, hV2⟩ : ∃ V, V = V1.alloc (.cells zE9A 87) := ⟨_, rfl⟩
    have qv2 : Nw V1 V2 := by rw [hV2]; exact (Fr.refl (fun _ => False) V1).alloc _
    have g2 : Blk V2 H 87 zE9A := by rw [hV2, hH]; exact Blk.new _ _ _
    obtain ⟨V3, hV3⟩ : ∃ V, V = V2.setCells H 0 (entL y) := ⟨_, rfl⟩
    have g3 : Blk V3 H 87 (entA y) := by rw [hV3]; exact Blk.setCells (l := zE9L) g2 0 (entL y)
    have m2 : Fr (· = H) V2 V3 := by rw [hV3]; exact (Fr.refl (· = H) _).setCells _ _
    have qv3 : Nw V1 V3 := qv2.new m2 (fun b hb => by omega)
    have th2 := Blk.there (l := zE9L) g2 0 7 (by show 0 + 7 ≤ 7; omega)
    have one2 := zbo y
    have QV : Nw wr V3 := qv1.tr qv3
    have l1 := Blk.cells_at (l := (entL x)) (g1.fr qv3 (fun h => h)) 0
    have l2 := Blk.cells_at (l := (entL y)) g3 0
    have hc2 := za0.cells hc2 V1 ⟨⟨V1, qv1⟩, rfl⟩
    have hsm : Calls Tryz.prog 85 #[.agg (entA x), .agg (entA y)] V3 fun e w' => e = .returned (.bool (decide (x.x = y.x))) ∧ Nw V3 w' := zjG _ F1 F2 x y (x1.nw QV) (x2.nw QV) z1
    obtain ⟨d, hd⟩ : ∃ d, decide (x.x = y.x) = d := ⟨_, rfl⟩
    simp only [hd] at hsm
    have HD := Lib.hid hd
    have HX := Lib.hid hx
    have HY := Lib.hid hy
    have HSM := Lib.hid hsm
    have HG := Lib.hid hG
    have HV0 := Lib.hid hV0
    have HV1 := Lib.hid hV1
    have HH := Lib.hid hH
    have HV2 := Lib.hid hV2
    have HV3 := Lib.hid hV3
    clear hd hx hy hsm x1 x2 z1 hG hV0 hV1 hH hV2 hV3 m1 m2 g0 g1 g2 g3 qv0 qv2
    go_upto_region 6 with (first | (refine za5 rfl 87 _ rfl b1 (o1 + k * 7) rfl (entL x) _ hc1 Tryz.underlying87 rfl (by kernel_rfl) ?_) | (rw [← HG.out, ← HV0.out]; refine wpList_store_mid rfl 87 _ _ rfl G 0 (entA x) rfl rfl th1 (by kernel_rfl) one1 ?_))
    rw [← HV1.out]
    go_upto_region 7 with (first | (refine za5 rfl 87 _ rfl b2 (o2 + k * 7) rfl (entL y) _ hc2 Tryz.underlying87 rfl (by kernel_rfl) ?_) | (rw [← HH.out, ← HV2.out]; refine wpList_store_mid rfl 87 _ _ rfl H 0 (entA y) rfl rfl th2 (by kernel_rfl) one2 ?_))
    rw [← HV3.out]
    cases d with
    | false =>
     go_wp2_with (first | (refine za5 rfl 87 _ rfl G 0 rfl (entL x) _ l1 Tryz.underlying87 rfl (by kernel_rfl) ?_) | (refine za5 rfl 87 _ rfl H 0 rfl (entL y) _ l2 Tryz.underlying87 rfl (by kernel_rfl) ?_) | (go_at_call 85; refine HSM.out.mono ?_; rintro e w5 ⟨rfl, q5'⟩))
     have q5 := QV.tr q5'
     go_ret
     refine ⟨zad (congrArg Value.bool (decide_eq_false fun h => ?_).symm), hq.tr q5⟩
     have h3 := congrArg (fun l => l[k]?) h
     simp only [List.getElem?_map, List.getElem?_eq_getElem hlt, List.getElem?_eq_getElem hlt2, Option.map_some] at h3
     injection h3 with h3
     rw [HX.out, HY.out] at h3
     exact of_decide_eq_false HD.out h3
    | true =>
     go_wp2_with (first | (refine za5 rfl 87 _ rfl G 0 rfl (entL x) _ l1 Tryz.underlying87 rfl (by kernel_rfl) ?_) | (refine za5 rfl 87 _ rfl H 0 rfl (entL y) _ l2 Tryz.underlying87 rfl (by kernel_rfl) ?_) | (go_at_call 85; refine HSM.out.mono ?_; rintro e w5 ⟨rfl, q5'⟩))
     have q5 := QV.tr q5'
     go_roundw
     case rel =>
      refine ⟨k + 1, by go_num, by omega, ?_, hq.tr q5⟩
      rw [List.take_succ_eq_append_getElem hlt, List.take_succ_eq_append_getElem hlt2, List.map_append, List.map_append, HT.out, HX.out, HY.out]
      congr 1
      rw [List.map_singleton, List.map_singleton, of_decide_eq_true HD.out]
     case measure => simp [intOf]; omega
   ·go_wp2_with fail
    go_ret
    have hx : xs.map EntM.x = ys.map EntM.x := by
     have := HT.out
     rwa [List.take_of_length_le (by omega), List.take_of_length_le (by have := HL.out; omega)] at this
    exact ⟨zad (congrArg Value.bool (decide_eq_true hx).symm), hq⟩
 ·have hlen : ((xs.length : Int) != (ys.length : Int)) = true := by simp; omega
  go_enter Tryz.func84, Tryz.ntmps84
  go_wp2_with fail
  go_ret
  exact ⟨zad (congrArg Value.bool (decide_eq_false fun h => hl (by have := congrArg List.length h; simpa using this)).symm), Fr.refl _ _⟩
open Go Go.RowKit
section
variable {P : Program} {md : Region.Mode} {ops : Array Oper} {Q : Exit → Act → World → Prop} {S : World → Prop} {i : Nat} {oi : Oper} {fuel : Nat} {listed : Array Bool} {a : Act} {w : World}
theorem za7 (d : Tmp) {v : Value} (hi : ops[i]? = some oi) (hd : oi.dst = some d) (hs : Region.noSelect ops = true) (hf : Region.free md ops listed i = true) (hr : (Region.ready md ops listed).contains i = true)
  (hQ : ∀ c a w, Q (.panic c) (a.put (some d) v) w → Q (.panic c) a w) (hy : YieldsIf P ops S oi v a) (hS : S w)
  (h : wpAnyH P md ops Q S fuel (listed.setIfInBounds i true) (a.put (some d) v) w) : wpAnyH P md ops Q S (fuel + 1) listed a w :=
 wpAnyH_take hi hs hf hr (by rw [hd]; exact hQ) hy hS (by rw [hd]; exact h)
theorem zax (d : Tmp) (hi : ops[i]? = some oi) (hd : oi.dst = some d) (hs : Region.noSelect ops = true) (hf : Region.free md ops listed i = true) (hr : (Region.ready md ops listed).contains i = true)
  (hQ : ∀ c a w, Q (.panic c) (a.put (some d) undef) w → Q (.panic c) a w) (hw : Region.wanted oi (yielded ops a.tmps) = false) (hS : S w)
  (h : wpAnyH P md ops Q S fuel (listed.setIfInBounds i true) (a.put (some d) undef) w) : wpAnyH P md ops Q S (fuel + 1) listed a w :=
 za7 d hi hd hs hf hr hQ (.inr ⟨hw, rfl⟩) hS h
theorem zbr (d : Tmp) (f : FuncId) (args : Array Value) (hi : ops[i]? = some oi) (hd : oi.dst = some d) (hr : Region.ready md ops listed = [i]) (hw : Region.wanted oi (yielded ops a.tmps) = true)
  (he : ∀ w, (execOp a.eval oi).run P w = .ok (.enter f args) w) (hc : Calls P f args w fun e w' => ∃ v, e = .returned v ∧ (S w' ∧ wpAnyH P md ops Q S fuel (listed.setIfInBounds i true) (a.put (some d) v) w')) : wpAnyH P md ops Q S (fuel + 1) listed a w := by
 refine wpAnyH_ready hr (by simp) (AllReadyH.cons hi (fun K hK => ?_) AllReadyH.nil)
 rw [if_pos hw]
 unfold Oper.wp
 rw [he, Oper.upon_enter]
 refine hc.mono ?_
 rintro e w' ⟨v, rfl, hS, hn⟩
 show K (a.put oi.dst v) w'
 rw [hd]
 exact hK.out _ _ hS fun _ => hn
end
end Go.Proofs.YtippdjaakcgeoaaGreat
