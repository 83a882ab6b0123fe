/- Lemmas of the walks: SmA, SmB, KpA. (Laid together by shake.py.) -/
import Derived.Deep.DeepCutAuto
import Derived.Test.YtippdjaakcgeoaaGreatEa02
import Derived.Test.YtippdjaakcgeoaaGreatEa03
import Derived.Test.YtippdjaakcgeoaaGreatEa04
import Derived.Test.YtippdjaakcgeoaaGreatEa07
set_option linter.unusedVariables false
set_option linter.unusedSimpArgs false
set_option maxRecDepth 100000
set_option maxHeartbeats 16000000
namespace Go.Proofs.YtippdjaakcgeoaaGreat
open Go Go.RowKit
def zkS (w : World) (xs ys : List Int) (i : Value) (wr : World) : Prop := ∃ k : Nat, i = .int .i64 k ∧ k ≤ xs.length ∧ xs.take k = ys.take k ∧ Nw w wr
theorem zes (w : World) (F1 F2 : Nat → Prop) (A1 A2 : Option Addr) (c1 c2 : Nat) (xs ys : List Int) (h1 : Sl w F1 A1 (zac xs)) (h2 : Sl w F2 A2 (zac ys)) (hm1 : xs.length ≤ 1000000000000) :
  Calls Tryz.prog 209 #[.slice A1 xs.length c1, .slice A2 ys.length c2] w fun e w' => e = .returned (.bool (decide (xs = ys))) ∧ Nw w w' := by
 by_cases hl : xs.length = ys.length
 ·have hlen : ((xs.length : Int) != (ys.length : Int)) = false := by simp [hl]
  have HL := Lib.hid hl
  clear hl
  go_enter Tryz.func209, Tryz.ntmps209
  go_wp2
  go_loopw [5] (fun i wr => zkS w xs ys i wr) (fun i _ => xs.length - (intOf i).toNat)
  case atStart => exact ⟨0, rfl, Nat.zero_le _, rfl, Fr.refl _ _⟩
  case round =>
   obtain ⟨k, rfl, hk, ht, hq⟩ := hrel
   have HT := Lib.hid ht
   clear ht
   by_cases hlt : k < xs.length
   ·have hlt2 : k < ys.length := by have := HL.out; omega
    obtain ⟨b1, o1, rfl, _, hc1⟩ := (h1.fr hq (fun _ _ h => h)).get hlt
    obtain ⟨b2, o2, rfl, _, hc2⟩ := (h2.fr hq (fun _ _ h => h)).get hlt2
    have hi1 : (k : Int) < (xs.length : Int) := by omega
    have hi2 : (k : Int) < (ys.length : Int) := by omega
    go_wp2
    go_quiet (fail)
    by_cases heq : (xs[k] != ys[k]) = false
    rotate_left
    ·have hne : (xs[k] != ys[k]) = true := by simpa using heq
     clear heq
     go_wp2
     go_ret
     refine ⟨zad (congrArg Value.bool (decide_eq_false ?_).symm), hq.drewN _⟩
     rintro rfl
     simp at hne
    ·go_wp2
     go_roundw
     case rel =>
      refine ⟨k + 1, by go_num, by omega, ?_, hq.drewN _⟩
      rw [List.take_succ_eq_append_getElem hlt, List.take_succ_eq_append_getElem hlt2, HT.out]
      congr 2
      simpa using heq
     case measure => simp [intOf]; omega
   ·go_wp2
    go_ret
    have hx : xs = ys := by
     have := HT.out
     rwa [List.take_of_length_le (by omega), List.take_of_length_le (by have := HL.out; omega)] at this
    exact ⟨zad (congrArg Value.bool (decide_eq_true hx).symm), hq⟩
 ·have hlen : ((xs.length : Int) != (ys.length : Int)) = true := by simp; omega
  go_enter Tryz.func209, Tryz.ntmps209
  go_wp2
  go_ret
  exact ⟨zad (congrArg Value.bool (decide_eq_false fun h => hl (by rw [h])).symm), Fr.refl _ _⟩
theorem zkI (x y : CfgM) : decide (x.x = y.x) = (decide (x.v.l = y.v.l) && (decide (x.o.l = y.o.l) && (decide (x.l.l = y.l.l) && decide (x.w.l = y.w.l)))) := by
 rw [Bool.eq_iff_iff]
 simp only [decide_eq_true_eq, Bool.and_eq_true, Cfg.mk.injEq]
theorem zkK (x y : EntM) : decide (x.x = y.x) = (decide (x.term = y.term) && (decide (x.kind = y.kind) && (decide (x.cmd.l = y.cmd.l) && decide (x.cfg.x = y.cfg.x)))) := by
 rw [Bool.eq_iff_iff]
 simp only [decide_eq_true_eq, Bool.and_eq_true, Ent.mk.injEq]
theorem bas_eq (x y : BasM) : decide (x.x = y.x) = (decide (x.index = y.index) && (decide (x.term = y.term) && decide (x.cfg.x = y.cfg.x))) := by
 rw [Bool.eq_iff_iff]
 simp only [decide_eq_true_eq, Bool.and_eq_true, Bas.mk.injEq]
theorem zg9 (w : World) (F1 F2 : Nat → Prop) (x y : CfgM) (hx : zaD w F1 x) (hy : zaD w F2 y) (hz : zaY x) :
  Calls Tryz.prog 159 #[.agg (cfgA x), .agg (cfgA y)] w fun e w' => e = .returned (.bool (decide (x.x = y.x))) ∧ Nw w w' := by
 rw [zkI]
 obtain ⟨W0, hW0⟩ : ∃ W, W = w.alloc (.cells (cfgA x) 45) := ⟨_, rfl⟩
 have p0 : Nw w W0 := by rw [hW0]; exact (Fr.refl (fun _ => False) _).alloc _
 have b0 : Blk W0 w.heap.size 45 (cfgA x) := by rw [hW0]; exact Blk.new _ _ _
 have hz1 : W0.heap.size = w.heap.size + 1 := by rw [hW0]; simp
 obtain ⟨W1, hW1⟩ : ∃ W, W = W0.alloc (.cells (cfgA y) 45) := ⟨_, rfl⟩
 have p1 : Nw W0 W1 := by rw [hW1]; exact (Fr.refl (fun _ => False) _).alloc _
 have b1 : Blk W1 (w.heap.size + 1) 45 (cfgA y) := by rw [hW1, ← hz1]; exact Blk.new _ _ _
 have Q0 : Nw w W1 := p0.tr p1
 have b0 := b0.fr p1 (fun h => h)
 have z1 : ∀ m : za0 W1, Calls Tryz.prog 209 #[.slice x.v.a x.v.l.length x.v.c, .slice y.v.a y.v.l.length y.v.c] m.at_ fun e w' => e = .returned (.bool (decide (x.v.l = y.v.l))) ∧ Nw m.at_ w' := fun m => by
  have f := Q0.tr m.nw
  exact zes _ F1 F2 _ _ _ _ _ _ (hx.v.sl.fr f (fun _ _ h => h)) (hy.v.sl.fr f (fun _ _ h => h)) (by have := hz.v; omega)
 obtain ⟨d1, e1⟩ : ∃ d, (decide (x.v.l = y.v.l)) = d := ⟨_, rfl⟩
 simp only [e1] at z1 ⊢
 have z2 : ∀ m : za0 W1, Calls Tryz.prog 209 #[.slice x.o.a x.o.l.length x.o.c, .slice y.o.a y.o.l.length y.o.c] m.at_ fun e w' => e = .returned (.bool (decide (x.o.l = y.o.l))) ∧ Nw m.at_ w' := fun m => by
  have f := Q0.tr m.nw
  exact zes _ F1 F2 _ _ _ _ _ _ (hx.o.sl.fr f (fun _ _ h => h)) (hy.o.sl.fr f (fun _ _ h => h)) (by have := hz.o; omega)
 obtain ⟨d2, e2⟩ : ∃ d, (decide (x.o.l = y.o.l)) = d := ⟨_, rfl⟩
 simp only [e2] at z2 ⊢
 have z3 : ∀ m : za0 W1, Calls Tryz.prog 209 #[.slice x.l.a x.l.l.length x.l.c, .slice y.l.a y.l.l.length y.l.c] m.at_ fun e w' => e = .returned (.bool (decide (x.l.l = y.l.l))) ∧ Nw m.at_ w' := fun m => by
  have f := Q0.tr m.nw
  exact zes _ F1 F2 _ _ _ _ _ _ (hx.l.sl.fr f (fun _ _ h => h)) (hy.l.sl.fr f (fun _ _ h => h)) (by have := hz.l; omega)
 obtain ⟨d3, e3⟩ : ∃ d, (decide (x.l.l = y.l.l)) = d := ⟨_, rfl⟩
 simp only [e3] at z3 ⊢
 have z4 : ∀ m : za0 W1, Calls Tryz.prog 209 #[.slice x.w.a x.w.l.length x.w.c, .slice y.w.a y.w.l.length y.w.c] m.at_ fun e w' => e = .returned (.bool (decide (x.w.l = y.w.l))) ∧ Nw m.at_ w' := fun m => by
  have f := Q0.tr m.nw
  exact zes _ F1 F2 _ _ _ _ _ _ (hx.w.sl.fr f (fun _ _ h => h)) (hy.w.sl.fr f (fun _ _ h => h)) (by have := hz.w; omega)
 obtain ⟨d4, e4⟩ : ∃ d, (decide (x.w.l = y.w.l)) = d := ⟨_, rfl⟩
 simp only [e4] at z4 ⊢
 have hS : ∀ w1, Nw W1 w1 → w1.cell? ⟨w.heap.size, 0, none⟩ = some (.slice x.v.a x.v.l.length x.v.c) ∧ w1.cell? ⟨w.heap.size, 1, none⟩ = some (.slice x.o.a x.o.l.length x.o.c) ∧ w1.cell? ⟨w.heap.size, 2, none⟩ = some (.slice x.l.a x.l.l.length x.l.c) ∧ w1.cell? ⟨w.heap.size, 3, none⟩ = some (.slice x.w.a x.w.l.length x.w.c) ∧ w1.cell? ⟨(w.heap.size + 1), 0, none⟩ = some (.slice y.v.a y.v.l.length y.v.c) ∧ w1.cell? ⟨(w.heap.size + 1), 1, none⟩ = some (.slice y.o.a y.o.l.length y.o.c) ∧ w1.cell? ⟨(w.heap.size + 1), 2, none⟩ = some (.slice y.l.a y.l.l.length y.l.c) ∧ w1.cell? ⟨(w.heap.size + 1), 3, none⟩ = some (.slice y.w.a y.w.l.length y.w.c) := fun w1 f => by
  have a0 := b0.fr f (fun h => h)
  have a1 := b1.fr f (fun h => h)
  exact ⟨by simpa using a0.cell 0, by simpa using a0.cell 1, by simpa using a0.cell 2, by simpa using a0.cell 3, by simpa using a1.cell 0, by simpa using a1.cell 1, by simpa using a1.cell 2, by simpa using a1.cell 3⟩
 have HW0 := Lib.hid hW0
 have HW1 := Lib.hid hW1
 clear hW0 b0 hW1 b1 e1 e2 e3 e4
 cases d1 with
 | false =>
  go_enter Tryz.func159, Tryz.ntmps159
  go_upto_region 1 with (fail)
  rw [← HW0.out, ← HW1.out]
  obtain ⟨k0_0_0, k0_0_1, k0_0_2, k0_0_3, k0_1_0, k0_1_1, k0_1_2, k0_1_3⟩ := hS W1 (Fr.refl _ _)
  go_wp2_with fail
  refine (z1 ⟨_, (Fr.refl (fun _ => False) W1)⟩).mono ?_
  rintro e v1 ⟨rfl, r1⟩
  have Q1 : Nw W1 v1 := (Fr.refl (fun _ => False) W1).tr r1
  obtain ⟨k1_0_0, k1_0_1, k1_0_2, k1_0_3, k1_1_0, k1_1_1, k1_1_2, k1_1_3⟩ := hS v1 Q1
  go_wp2_with fail
  go_ret
  exact ⟨rfl, Q0.tr Q1⟩
 | true =>
 cases d2 with
 | false =>
  go_enter Tryz.func159, Tryz.ntmps159
  go_upto_region 1 with (fail)
  rw [← HW0.out, ← HW1.out]
  obtain ⟨k0_0_0, k0_0_1, k0_0_2, k0_0_3, k0_1_0, k0_1_1, k0_1_2, k0_1_3⟩ := hS W1 (Fr.refl _ _)
  go_wp2_with fail
  refine (z1 ⟨_, (Fr.refl (fun _ => False) W1)⟩).mono ?_
  rintro e v1 ⟨rfl, r1⟩
  have Q1 : Nw W1 v1 := (Fr.refl (fun _ => False) W1).tr r1
  obtain ⟨k1_0_0, k1_0_1, k1_0_2, k1_0_3, k1_1_0, k1_1_1, k1_1_2, k1_1_3⟩ := hS v1 Q1
  go_wp2_with fail
  refine (z2 ⟨_, Q1⟩).mono ?_
  rintro e v2 ⟨rfl, r2⟩
  have Q2 : Nw W1 v2 := Q1.tr r2
  obtain ⟨k2_0_0, k2_0_1, k2_0_2, k2_0_3, k2_1_0, k2_1_1, k2_1_2, k2_1_3⟩ := hS v2 Q2
  go_wp2_with fail
  go_ret
  exact ⟨rfl, Q0.tr Q2⟩
 | true =>
 cases d3 with
 | false =>
  go_enter Tryz.func159, Tryz.ntmps159
  go_upto_region 1 with (fail)
  rw [← HW0.out, ← HW1.out]
  obtain ⟨k0_0_0, k0_0_1, k0_0_2, k0_0_3, k0_1_0, k0_1_1, k0_1_2, k0_1_3⟩ := hS W1 (Fr.refl _ _)
  go_wp2_with fail
  refine (z1 ⟨_, (Fr.refl (fun _ => False) W1)⟩).mono ?_
  rintro e v1 ⟨rfl, r1⟩
  have Q1 : Nw W1 v1 := (Fr.refl (fun _ => False) W1).tr r1
  obtain ⟨k1_0_0, k1_0_1, k1_0_2, k1_0_3, k1_1_0, k1_1_1, k1_1_2, k1_1_3⟩ := hS v1 Q1
  go_wp2_with fail
  refine (z2 ⟨_, Q1⟩).mono ?_
  rintro e v2 ⟨rfl, r2⟩
  have Q2 : Nw W1 v2 := Q1.tr r2
  obtain ⟨k2_0_0, k2_0_1, k2_0_2, k2_0_3, k2_1_0, k2_1_1, k2_1_2, k2_1_3⟩ := hS v2 Q2
  go_wp2_with fail
  refine (z3 ⟨_, Q2⟩).mono ?_
  rintro e v3 ⟨rfl, r3⟩
  have Q3 : Nw W1 v3 := Q2.tr r3
  obtain ⟨k3_0_0, k3_0_1, k3_0_2, k3_0_3, k3_1_0, k3_1_1, k3_1_2, k3_1_3⟩ := hS v3 Q3
  go_wp2_with fail
  go_ret
  exact ⟨rfl, Q0.tr Q3⟩
 | true =>
 cases d4 with
 | false =>
  go_enter Tryz.func159, Tryz.ntmps159
  go_upto_region 1 with (fail)
  rw [← HW0.out, ← HW1.out]
  obtain ⟨k0_0_0, k0_0_1, k0_0_2, k0_0_3, k0_1_0, k0_1_1, k0_1_2, k0_1_3⟩ := hS W1 (Fr.refl _ _)
  go_wp2_with fail
  refine (z1 ⟨_, (Fr.refl (fun _ => False) W1)⟩).mono ?_
  rintro e v1 ⟨rfl, r1⟩
  have Q1 : Nw W1 v1 := (Fr.refl (fun _ => False) W1).tr r1
  obtain ⟨k1_0_0, k1_0_1, k1_0_2, k1_0_3, k1_1_0, k1_1_1, k1_1_2, k1_1_3⟩ := hS v1 Q1
  go_wp2_with fail
  refine (z2 ⟨_, Q1⟩).mono ?_
  rintro e v2 ⟨rfl, r2⟩
  have Q2 : Nw W1 v2 := Q1.tr r2
  obtain ⟨k2_0_0, k2_0_1, k2_0_2, k2_0_3, k2_1_0, k2_1_1, k2_1_2, k2_1_3⟩ := hS v2 Q2
  go_wp2_with fail
  refine (z3 ⟨_, Q2⟩).mono ?_
  rintro e v3 ⟨rfl, r3⟩
  have Q3 : Nw W1 v3 := Q2.tr r3
  obtain ⟨k3_0_0, k3_0_1, k3_0_2, k3_0_3, k3_1_0, k3_1_1, k3_1_2, k3_1_3⟩ := hS v3 Q3
  go_wp2_with fail
  refine (z4 ⟨_, Q3⟩).mono ?_
  rintro e v4 ⟨rfl, r4⟩
  have Q4 : Nw W1 v4 := Q3.tr r4
  obtain ⟨k4_0_0, k4_0_1, k4_0_2, k4_0_3, k4_1_0, k4_1_1, k4_1_2, k4_1_3⟩ := hS v4 Q4
  go_wp2_with fail
  go_ret
  exact ⟨rfl, Q0.tr Q4⟩
 | true =>
 go_enter Tryz.func159, Tryz.ntmps159
 go_upto_region 1 with (fail)
 rw [← HW0.out, ← HW1.out]
 obtain ⟨k0_0_0, k0_0_1, k0_0_2, k0_0_3, k0_1_0, k0_1_1, k0_1_2, k0_1_3⟩ := hS W1 (Fr.refl _ _)
 go_wp2_with fail
 refine (z1 ⟨_, (Fr.refl (fun _ => False) W1)⟩).mono ?_
 rintro e v1 ⟨rfl, r1⟩
 have Q1 : Nw W1 v1 := (Fr.refl (fun _ => False) W1).tr r1
 obtain ⟨k1_0_0, k1_0_1, k1_0_2, k1_0_3, k1_1_0, k1_1_1, k1_1_2, k1_1_3⟩ := hS v1 Q1
 go_wp2_with fail
 refine (z2 ⟨_, Q1⟩).mono ?_
 rintro e v2 ⟨rfl, r2⟩
 have Q2 : Nw W1 v2 := Q1.tr r2
 obtain ⟨k2_0_0, k2_0_1, k2_0_2, k2_0_3, k2_1_0, k2_1_1, k2_1_2, k2_1_3⟩ := hS v2 Q2
 go_wp2_with fail
 refine (z3 ⟨_, Q2⟩).mono ?_
 rintro e v3 ⟨rfl, r3⟩
 have Q3 : Nw W1 v3 := Q2.tr r3
 obtain ⟨k3_0_0, k3_0_1, k3_0_2, k3_0_3, k3_1_0, k3_1_1, k3_1_2, k3_1_3⟩ := hS v3 Q3
 go_wp2_with fail
 refine (z4 ⟨_, Q3⟩).mono ?_
 rintro e v4 ⟨rfl, r4⟩
 have Q4 : Nw W1 v4 := Q3.tr r4
 obtain ⟨k4_0_0, k4_0_1, k4_0_2, k4_0_3, k4_1_0, k4_1_1, k4_1_2, k4_1_3⟩ := hS v4 Q4
 go_wp2_with fail
 go_ret
 exact ⟨rfl, Q0.tr Q4⟩
theorem zei (w : World) (F1 F2 : Nat → Prop) (x y : EntM) (hx : zau w F1 x) (hy : zau w F2 y) (hz : zaW x) :
  Calls Tryz.prog 158 #[.agg (entA x), .agg (entA y)] w fun e w' => e = .returned (.bool (decide (x.x = y.x))) ∧ Nw w w' := by
 rw [zkK]
 obtain ⟨W0, hW0⟩ : ∃ W, W = w.alloc (.cells (entA x) 87) := ⟨_, rfl⟩
 have p0 : Nw w W0 := by rw [hW0]; exact (Fr.refl (fun _ => False) _).alloc _
 have b0 : Blk W0 w.heap.size 87 (entA x) := by rw [hW0]; exact Blk.new _ _ _
 have hz1 : W0.heap.size = w.heap.size + 1 := by rw [hW0]; simp
 obtain ⟨W1, hW1⟩ : ∃ W, W = W0.alloc (.cells (entA y) 87) := ⟨_, rfl⟩
 have p1 : Nw W0 W1 := by rw [hW1]; exact (Fr.refl (fun _ => False) _).alloc _
 have b1 : Blk W1 (w.heap.size + 1) 87 (entA y) := by rw [hW1, ← hz1]; exact Blk.new _ _ _
 have Q0 : Nw w W1 := p0.tr p1
 have b0 := b0.fr p1 (fun h => h)
 have z1 : (x.term == y.term) = (decide (x.term = y.term)) := rfl
 obtain ⟨d1, e1⟩ : ∃ d, (decide (x.term = y.term)) = d := ⟨_, rfl⟩
 simp only [e1] at z1 ⊢
 have z2 : (x.kind == y.kind) = (decide (x.kind = y.kind)) := rfl
 obtain ⟨d2, e2⟩ : ∃ d, (decide (x.kind = y.kind)) = d := ⟨_, rfl⟩
 simp only [e2] at z2 ⊢
 have z3 : ∀ m : za0 W1, Calls Tryz.prog 34 #[.slice x.cmd.a x.cmd.l.length x.cmd.c, .slice y.cmd.a y.cmd.l.length y.cmd.c] m.at_ fun e w' => e = .returned (.bool (decide (x.cmd.l = y.cmd.l))) ∧ Nw m.at_ w' := fun m => by
  have f := Q0.tr m.nw
  exact (zfH _ F1 F2 _ _ _ _ _ _ (hx.cmd.sl.fr f (fun _ _ h => h)) (hy.cmd.sl.fr f (fun _ _ h => h)) (by have := hz.cmd; omega)).mono fun e w' h => ⟨h.1, h.2.fr _⟩
 obtain ⟨d3, e3⟩ : ∃ d, (decide (x.cmd.l = y.cmd.l)) = d := ⟨_, rfl⟩
 simp only [e3] at z3 ⊢
 have z4 : ∀ m : za0 W1, Calls Tryz.prog 159 #[.agg (cfgA x.cfg), .agg (cfgA y.cfg)] m.at_ fun e w' => e = .returned (.bool (decide (x.cfg.x = y.cfg.x))) ∧ Nw m.at_ w' := fun m => by
  have f := Q0.tr m.nw
  exact zg9 _ F1 F2 _ _ (hx.cfg.nw f) (hy.cfg.nw f) hz.cfg
 obtain ⟨d4, e4⟩ : ∃ d, (decide (x.cfg.x = y.cfg.x)) = d := ⟨_, rfl⟩
 simp only [e4] at z4 ⊢
 have hS : ∀ w1, Nw W1 w1 → w1.cell? ⟨w.heap.size, 0, none⟩ = some (I64 x.term) ∧ w1.cell? ⟨w.heap.size, 1, none⟩ = some (U8V x.kind) ∧ w1.cell? ⟨w.heap.size, 2, none⟩ = some (.slice x.cmd.a x.cmd.l.length x.cmd.c) ∧ w1.cell? ⟨w.heap.size, 3, none⟩ = some (.slice x.cfg.v.a x.cfg.v.l.length x.cfg.v.c) ∧ w1.cell? ⟨w.heap.size, 4, none⟩ = some (.slice x.cfg.o.a x.cfg.o.l.length x.cfg.o.c) ∧ w1.cell? ⟨w.heap.size, 5, none⟩ = some (.slice x.cfg.l.a x.cfg.l.l.length x.cfg.l.c) ∧ w1.cell? ⟨w.heap.size, 6, none⟩ = some (.slice x.cfg.w.a x.cfg.w.l.length x.cfg.w.c) ∧ w1.cell? ⟨(w.heap.size + 1), 0, none⟩ = some (I64 y.term) ∧ w1.cell? ⟨(w.heap.size + 1), 1, none⟩ = some (U8V y.kind) ∧ w1.cell? ⟨(w.heap.size + 1), 2, none⟩ = some (.slice y.cmd.a y.cmd.l.length y.cmd.c) ∧ w1.cell? ⟨(w.heap.size + 1), 3, none⟩ = some (.slice y.cfg.v.a y.cfg.v.l.length y.cfg.v.c) ∧ w1.cell? ⟨(w.heap.size + 1), 4, none⟩ = some (.slice y.cfg.o.a y.cfg.o.l.length y.cfg.o.c) ∧ w1.cell? ⟨(w.heap.size + 1), 5, none⟩ = some (.slice y.cfg.l.a y.cfg.l.l.length y.cfg.l.c) ∧ w1.cell? ⟨(w.heap.size + 1), 6, none⟩ = some (.slice y.cfg.w.a y.cfg.w.l.length y.cfg.w.c) := fun w1 f => by
  have a0 := b0.fr f (fun h => h)
  have a1 := b1.fr f (fun h => h)
  exact ⟨by simpa using a0.cell 0, by simpa using a0.cell 1, by simpa using a0.cell 2, by simpa using a0.cell 3, by simpa using a0.cell 4, by simpa using a0.cell 5, by simpa using a0.cell 6, by simpa using a1.cell 0, by simpa using a1.cell 1, by simpa using a1.cell 2, by simpa using a1.cell 3, by simpa using a1.cell 4, by simpa using a1.cell 5, by simpa using a1.cell 6⟩
 have HW0 := Lib.hid hW0
 have HW1 := Lib.hid hW1
 clear hW0 b0 hW1 b1 e1 e2 e3 e4
 cases d1 with
 | false =>
  go_enter Tryz.func158, Tryz.ntmps158
  go_upto_region 1 with (fail)
  rw [← HW0.out, ← HW1.out]
  obtain ⟨k0_0_0, k0_0_1, k0_0_2, k0_0_3, k0_0_4, k0_0_5, k0_0_6, k0_1_0, k0_1_1, k0_1_2, k0_1_3, k0_1_4, k0_1_5, k0_1_6⟩ := hS W1 (Fr.refl _ _)
  go_wp2_with fail
  go_ret
  exact ⟨rfl, Q0.tr (Fr.refl (fun _ => False) W1)⟩
 | true =>
 cases d2 with
 | false =>
  go_enter Tryz.func158, Tryz.ntmps158
  go_upto_region 1 with (fail)
  rw [← HW0.out, ← HW1.out]
  obtain ⟨k0_0_0, k0_0_1, k0_0_2, k0_0_3, k0_0_4, k0_0_5, k0_0_6, k0_1_0, k0_1_1, k0_1_2, k0_1_3, k0_1_4, k0_1_5, k0_1_6⟩ := hS W1 (Fr.refl _ _)
  go_wp2_with fail
  go_ret
  exact ⟨rfl, Q0.tr (Fr.refl (fun _ => False) W1)⟩
 | true =>
 cases d3 with
 | false =>
  go_enter Tryz.func158, Tryz.ntmps158
  go_upto_region 1 with (fail)
  rw [← HW0.out, ← HW1.out]
  obtain ⟨k0_0_0, k0_0_1, k0_0_2, k0_0_3, k0_0_4, k0_0_5, k0_0_6, k0_1_0, k0_1_1, k0_1_2, k0_1_3, k0_1_4, k0_1_5, k0_1_6⟩ := hS W1 (Fr.refl _ _)
  go_wp2_with fail
  refine (z3 ⟨_, (Fr.refl (fun _ => False) W1)⟩).mono ?_
  rintro e v1 ⟨rfl, r1⟩
  have Q1 : Nw W1 v1 := (Fr.refl (fun _ => False) W1).tr r1
  obtain ⟨k1_0_0, k1_0_1, k1_0_2, k1_0_3, k1_0_4, k1_0_5, k1_0_6, k1_1_0, k1_1_1, k1_1_2, k1_1_3, k1_1_4, k1_1_5, k1_1_6⟩ := hS v1 Q1
  go_wp2_with fail
  go_ret
  exact ⟨rfl, Q0.tr Q1⟩
 | true =>
 cases d4 with
 | false =>
  go_enter Tryz.func158, Tryz.ntmps158
  go_upto_region 1 with (fail)
  rw [← HW0.out, ← HW1.out]
  obtain ⟨k0_0_0, k0_0_1, k0_0_2, k0_0_3, k0_0_4, k0_0_5, k0_0_6, k0_1_0, k0_1_1, k0_1_2, k0_1_3, k0_1_4, k0_1_5, k0_1_6⟩ := hS W1 (Fr.refl _ _)
  go_wp2_with fail
  refine (z3 ⟨_, (Fr.refl (fun _ => False) W1)⟩).mono ?_
  rintro e v1 ⟨rfl, r1⟩
  have Q1 : Nw W1 v1 := (Fr.refl (fun _ => False) W1).tr r1
  obtain ⟨k1_0_0, k1_0_1, k1_0_2, k1_0_3, k1_0_4, k1_0_5, k1_0_6, k1_1_0, k1_1_1, k1_1_2, k1_1_3, k1_1_4, k1_1_5, k1_1_6⟩ := hS v1 Q1
  go_wp2_with fail
  refine (z4 ⟨_, Q1⟩).mono ?_
  rintro e v2 ⟨rfl, r2⟩
  have Q2 : Nw W1 v2 := Q1.tr r2
  obtain ⟨k2_0_0, k2_0_1, k2_0_2, k2_0_3, k2_0_4, k2_0_5, k2_0_6, k2_1_0, k2_1_1, k2_1_2, k2_1_3, k2_1_4, k2_1_5, k2_1_6⟩ := hS v2 Q2
  go_wp2_with fail
  go_ret
  exact ⟨rfl, Q0.tr Q2⟩
 | true =>
 go_enter Tryz.func158, Tryz.ntmps158
 go_upto_region 1 with (fail)
 rw [← HW0.out, ← HW1.out]
 obtain ⟨k0_0_0, k0_0_1, k0_0_2, k0_0_3, k0_0_4, k0_0_5, k0_0_6, k0_1_0, k0_1_1, k0_1_2, k0_1_3, k0_1_4, k0_1_5, k0_1_6⟩ := hS W1 (Fr.refl _ _)
 go_wp2_with fail
 refine (z3 ⟨_, (Fr.refl (fun _ => False) W1)⟩).mono ?_
 rintro e v1 ⟨rfl, r1⟩
 have Q1 : Nw W1 v1 := (Fr.refl (fun _ => False) W1).tr r1
 obtain ⟨k1_0_0, k1_0_1, k1_0_2, k1_0_3, k1_0_4, k1_0_5, k1_0_6, k1_1_0, k1_1_1, k1_1_2, k1_1_3, k1_1_4, k1_1_5, k1_1_6⟩ := hS v1 Q1
 go_wp2_with fail
 refine (z4 ⟨_, Q1⟩).mono ?_
 rintro e v2 ⟨rfl, r2⟩
 have Q2 : Nw W1 v2 := Q1.tr r2
 obtain ⟨k2_0_0, k2_0_1, k2_0_2, k2_0_3, k2_0_4, k2_0_5, k2_0_6, k2_1_0, k2_1_1, k2_1_2, k2_1_3, k2_1_4, k2_1_5, k2_1_6⟩ := hS v2 Q2
 go_wp2_with fail
 go_ret
 exact ⟨rfl, Q0.tr Q2⟩
theorem ziA (w : World) (F1 F2 : Nat → Prop) (x y : BasM) (hx : zaD w F1 x.cfg) (hy : zaD w F2 y.cfg) (hz : zaY x.cfg) :
  Calls Tryz.prog 89 #[.agg (basA x), .agg (basA y)] w fun e w' => e = .returned (.bool (decide (x.x = y.x))) ∧ Nw w w' := by
 rw [bas_eq]
 obtain ⟨W0, hW0⟩ : ∃ W, W = w.alloc (.cells (basA x) 47) := ⟨_, rfl⟩
 have p0 : Nw w W0 := by rw [hW0]; exact (Fr.refl (fun _ => False) _).alloc _
 have b0 : Blk W0 w.heap.size 47 (basA x) := by rw [hW0]; exact Blk.new _ _ _
 have hz1 : W0.heap.size = w.heap.size + 1 := by rw [hW0]; simp
 obtain ⟨W1, hW1⟩ : ∃ W, W = W0.alloc (.cells (basA y) 47) := ⟨_, rfl⟩
 have p1 : Nw W0 W1 := by rw [hW1]; exact (Fr.refl (fun _ => False) _).alloc _
 have b1 : Blk W1 (w.heap.size + 1) 47 (basA y) := by rw [hW1, ← hz1]; exact Blk.new _ _ _
 have Q0 : Nw w W1 := p0.tr p1
 have b0 := b0.fr p1 (fun h => h)
 have z1 : (x.index == y.index) = (decide (x.index = y.index)) := rfl
 obtain ⟨d1, e1⟩ : ∃ d, (decide (x.index = y.index)) = d := ⟨_, rfl⟩
 simp only [e1] at z1 ⊢
 have z2 : (x.term == y.term) = (decide (x.term = y.term)) := rfl
 obtain ⟨d2, e2⟩ : ∃ d, (decide (x.term = y.term)) = d := ⟨_, rfl⟩
 simp only [e2] at z2 ⊢
 have z3 : ∀ m : za0 W1, Calls Tryz.prog 159 #[.agg (cfgA x.cfg), .agg (cfgA y.cfg)] m.at_ fun e w' => e = .returned (.bool (decide (x.cfg.x = y.cfg.x))) ∧ Nw m.at_ w' := fun m => by
  have f := Q0.tr m.nw
  exact zg9 _ F1 F2 _ _ (hx.nw f) (hy.nw f) hz
 obtain ⟨d3, e3⟩ : ∃ d, (decide (x.cfg.x = y.cfg.x)) = d := ⟨_, rfl⟩
 simp only [e3] at z3 ⊢
 have hS : ∀ w1, Nw W1 w1 → w1.cell? ⟨w.heap.size, 0, none⟩ = some (I64 x.index) ∧ w1.cell? ⟨w.heap.size, 1, none⟩ = some (I64 x.term) ∧ w1.cell? ⟨w.heap.size, 2, none⟩ = some (.slice x.cfg.v.a x.cfg.v.l.length x.cfg.v.c) ∧ w1.cell? ⟨w.heap.size, 3, none⟩ = some (.slice x.cfg.o.a x.cfg.o.l.length x.cfg.o.c) ∧ w1.cell? ⟨w.heap.size, 4, none⟩ = some (.slice x.cfg.l.a x.cfg.l.l.length x.cfg.l.c) ∧ w1.cell? ⟨w.heap.size, 5, none⟩ = some (.slice x.cfg.w.a x.cfg.w.l.length x.cfg.w.c) ∧ w1.cell? ⟨(w.heap.size + 1), 0, none⟩ = some (I64 y.index) ∧ w1.cell? ⟨(w.heap.size + 1), 1, none⟩ = some (I64 y.term) ∧ w1.cell? ⟨(w.heap.size + 1), 2, none⟩ = some (.slice y.cfg.v.a y.cfg.v.l.length y.cfg.v.c) ∧ w1.cell? ⟨(w.heap.size + 1), 3, none⟩ = some (.slice y.cfg.o.a y.cfg.o.l.length y.cfg.o.c) ∧ w1.cell? ⟨(w.heap.size + 1), 4, none⟩ = some (.slice y.cfg.l.a y.cfg.l.l.length y.cfg.l.c) ∧ w1.cell? ⟨(w.heap.size + 1), 5, none⟩ = some (.slice y.cfg.w.a y.cfg.w.l.length y.cfg.w.c) := fun w1 f => by
  have a0 := b0.fr f (fun h => h)
  have a1 := b1.fr f (fun h => h)
  exact ⟨by simpa using a0.cell 0, by simpa using a0.cell 1, by simpa using a0.cell 2, by simpa using a0.cell 3, by simpa using a0.cell 4, by simpa using a0.cell 5, by simpa using a1.cell 0, by simpa using a1.cell 1, by simpa using a1.cell 2, by simpa using a1.cell 3, by simpa using a1.cell 4, by simpa using a1.cell 5⟩
 have HW0 := Lib.hid hW0
 have HW1 := Lib.hid hW1
 clear hW0 b0 hW1 b1 e1 e2 e3
 cases d1 with
 | false =>
  go_enter Tryz.func89, Tryz.ntmps89
  go_upto_region 1 with (fail)
  rw [← HW0.out, ← HW1.out]
  obtain ⟨k0_0_0, k0_0_1, k0_0_2, k0_0_3, k0_0_4, k0_0_5, k0_1_0, k0_1_1, k0_1_2, k0_1_3, k0_1_4, k0_1_5⟩ := hS W1 (Fr.refl _ _)
  go_wp2_with fail
  go_ret
  exact ⟨rfl, Q0.tr (Fr.refl (fun _ => False) W1)⟩
 | true =>
 cases d2 with
 | false =>
  go_enter Tryz.func89, Tryz.ntmps89
  go_upto_region 1 with (fail)
  rw [← HW0.out, ← HW1.out]
  obtain ⟨k0_0_0, k0_0_1, k0_0_2, k0_0_3, k0_0_4, k0_0_5, k0_1_0, k0_1_1, k0_1_2, k0_1_3, k0_1_4, k0_1_5⟩ := hS W1 (Fr.refl _ _)
  go_wp2_with fail
  go_ret
  exact ⟨rfl, Q0.tr (Fr.refl (fun _ => False) W1)⟩
 | true =>
 cases d3 with
 | false =>
  go_enter Tryz.func89, Tryz.ntmps89
  go_upto_region 1 with (fail)
  rw [← HW0.out, ← HW1.out]
  obtain ⟨k0_0_0, k0_0_1, k0_0_2, k0_0_3, k0_0_4, k0_0_5, k0_1_0, k0_1_1, k0_1_2, k0_1_3, k0_1_4, k0_1_5⟩ := hS W1 (Fr.refl _ _)
  go_wp2_with fail
  refine (z3 ⟨_, (Fr.refl (fun _ => False) W1)⟩).mono ?_
  rintro e v1 ⟨rfl, r1⟩
  have Q1 : Nw W1 v1 := (Fr.refl (fun _ => False) W1).tr r1
  obtain ⟨k1_0_0, k1_0_1, k1_0_2, k1_0_3, k1_0_4, k1_0_5, k1_1_0, k1_1_1, k1_1_2, k1_1_3, k1_1_4, k1_1_5⟩ := hS v1 Q1
  go_wp2_with fail
  go_ret
  exact ⟨rfl, Q0.tr Q1⟩
 | true =>
 go_enter Tryz.func89, Tryz.ntmps89
 go_upto_region 1 with (fail)
 rw [← HW0.out, ← HW1.out]
 obtain ⟨k0_0_0, k0_0_1, k0_0_2, k0_0_3, k0_0_4, k0_0_5, k0_1_0, k0_1_1, k0_1_2, k0_1_3, k0_1_4, k0_1_5⟩ := hS W1 (Fr.refl _ _)
 go_wp2_with fail
 refine (z3 ⟨_, (Fr.refl (fun _ => False) W1)⟩).mono ?_
 rintro e v1 ⟨rfl, r1⟩
 have Q1 : Nw W1 v1 := (Fr.refl (fun _ => False) W1).tr r1
 obtain ⟨k1_0_0, k1_0_1, k1_0_2, k1_0_3, k1_0_4, k1_0_5, k1_1_0, k1_1_1, k1_1_2, k1_1_3, k1_1_4, k1_1_5⟩ := hS v1 Q1
 go_wp2_with fail
 go_ret
 exact ⟨rfl, Q0.tr Q1⟩
open Go Go.RowKit
def zjK (w : World) (xs ys : List EntM) (i : Value) (wr : World) : Prop := ∃ k : Nat, i = .int .i64 k ∧ k ≤ xs.length ∧ (xs.take k).map EntM.x = (ys.take k).map EntM.x ∧ Nw w wr
theorem zl5 (w : World) (F1 F2 : Nat → Prop) (A1 A2 : Option Addr) (c1 c2 : Nat) (xs ys : List EntM) (h1 : Sl w F1 A1 (zal xs)) (h2 : Sl w F2 A2 (zal ys)) (e1 : ∀ e ∈ xs, zau w F1 e) (e2 : ∀ e ∈ ys, zau w F2 e) (hz : ∀ e ∈ xs, zaW e) (hm1 : xs.length ≤ 1000000000000) :
  Calls Tryz.prog 88 #[.slice A1 xs.length c1, .slice A2 ys.length c2] w fun e w' => e = .returned (.bool (decide (xs.map EntM.x = ys.map EntM.x))) ∧ Nw w w' := by
 by_cases hl : xs.length = ys.length
 ·have hlen : ((xs.length : Int) != (ys.length : Int)) = false := by simp [hl]
  have HL := Lib.hid hl
  have HZ := Lib.hid hz
  have E1 := Lib.hid e1
  have E2 := Lib.hid e2
  clear hl hz e1 e2
  go_enter Tryz.func88, Tryz.ntmps88
  go_wp2_with fail
  go_loopw [5] (fun i wr => zjK w xs ys i wr) (fun i _ => xs.length - (intOf i).toNat)
  case atStart => exact ⟨0, rfl, Nat.zero_le _, rfl, Fr.refl _ _⟩
  case round =>
   obtain ⟨k, rfl, hk, ht, hq⟩ := hrel
   have HT := Lib.hid ht
   clear ht
   by_cases hlt : k < xs.length
   ·have hlt2 : k < ys.length := by have := HL.out; omega
    obtain ⟨b1, o1, rfl, _, _, hc1⟩ := (h1.fr hq (fun _ _ h => h)).ent hlt
    obtain ⟨b2, o2, rfl, _, _, hc2⟩ := (h2.fr hq (fun _ _ h => h)).ent hlt2
    have hi1 : (k : Int) < (xs.length : Int) := by omega
    have hi2 : (k : Int) < (ys.length : Int) := by omega
    have x1 := (E1.out _ (List.getElem_mem hlt)).nw hq
    have x2 := (E2.out _ (List.getElem_mem hlt2)).nw hq
    have z1 := HZ.out _ (List.getElem_mem hlt)
    obtain ⟨x, hx⟩ : ∃ x, xs[k] = x := ⟨_, rfl⟩
    obtain ⟨y, hy⟩ : ∃ y, ys[k] = y := ⟨_, rfl⟩
    rw [hx] at x1 z1 hc1
    rw [hy] at x2 hc2
    have hsm : ∀ m : za0 wr, Calls Tryz.prog 158 #[.agg (entA x), .agg (entA y)] m.at_ fun e w' => e = .returned (.bool (decide (x.x = y.x))) ∧ Nw m.at_ w' := fun m => zei _ F1 F2 x y (x1.nw m.nw) (x2.nw m.nw) z1
    obtain ⟨d, hd⟩ : ∃ d, decide (x.x = y.x) = d := ⟨_, rfl⟩
    simp only [hd] at hsm
    have HD := Lib.hid hd
    have HX := Lib.hid hx
    have HY := Lib.hid hy
    have HSM := Lib.hid hsm
    have hC1 := za0.cells hc1
    have hC2 := za0.cells hc2
    have L1 := Lib.hid hC1
    have L2 := Lib.hid hC2
    clear hc1 hc2 hC1 hC2 hd hx hy hsm x1 x2 z1
    go_wp2_with fail
    refine zae (by kernel_rfl) (by kernel_rfl) ?_
    repeat (first | (refine zaa (by rfl) 87 _ rfl b1 (o1 + k * 7) rfl _ _ L1.out Tryz.underlying87 rfl (by kernel_rfl) ?_; simp only [Act.put, sA9, sC9, sB9]) | (refine zaa (by rfl) 87 _ rfl b2 (o2 + k * 7) rfl _ _ L2.out Tryz.underlying87 rfl (by kernel_rfl) ?_; simp only [Act.put, sA9, sC9, sB9]) | go_big_quiet_step ((go_at_call 158; exact za0.call (HSM.out _))))
    refine zaj fun w5 q5 => ?_
    cases d with
    | false =>
     go_wp2_with fail
     go_ret
     refine ⟨zad (congrArg Value.bool (decide_eq_false fun h => ?_).symm), hq.tr q5⟩
     have h3 := congrArg (fun l => l[k]?) h
     simp only [List.getElem?_map, List.getElem?_eq_getElem hlt, List.getElem?_eq_getElem hlt2, Option.map_some] at h3
     injection h3 with h3
     rw [HX.out, HY.out] at h3
     exact of_decide_eq_false HD.out h3
    | true =>
     go_wp2_with fail
     go_roundw
     case rel =>
      refine ⟨k + 1, by go_num, by omega, ?_, hq.tr q5⟩
      rw [List.take_succ_eq_append_getElem hlt, List.take_succ_eq_append_getElem hlt2, List.map_append, List.map_append, HT.out, HX.out, HY.out]
      congr 1
      rw [List.map_singleton, List.map_singleton, of_decide_eq_true HD.out]
     case measure => simp [intOf]; omega
   ·go_wp2_with fail
    go_ret
    have hx : xs.map EntM.x = ys.map EntM.x := by
     have := HT.out
     rwa [List.take_of_length_le (by omega), List.take_of_length_le (by have := HL.out; omega)] at this
    exact ⟨zad (congrArg Value.bool (decide_eq_true hx).symm), hq⟩
 ·have hlen : ((xs.length : Int) != (ys.length : Int)) = true := by simp; omega
  go_enter Tryz.func88, Tryz.ntmps88
  go_wp2_with fail
  go_ret
  exact ⟨zad (congrArg Value.bool (decide_eq_false fun h => hl (by have := congrArg List.length h; simpa using this)).symm), Fr.refl _ _⟩
open Go Go.RowKit
theorem zaW.zero' {k i : Nat} : zaW (mkEn k i) := ⟨by show 0 ≤ 1000000; omega, zaY.zero⟩
theorem za8.zero' {k i : Nat} : za8 (mkLe k i) := ⟨by show 0 ≤ 1000000; omega, (by intro e he; cases he), zaY.zero, by show 0 ≤ 1000000; omega⟩
theorem zau.mark (w : World) (F : Nat → Prop) (k i : Nat) : zau w F (mkEn k i) := ⟨⟨by show (0 : Int) ≤ 0; omega, by show (0 : Int) ≤ 255; omega⟩, LsIn.nil w F zaw rfl, zaD.zero w F⟩
theorem za3.mark (w : World) (F : Nat → Prop) (k i : Nat) : za3 w F (mkLe k i) := ⟨⟨by show (0 : Int) ≤ 0; omega, by show (0 : Int) ≤ 255; omega⟩, LsIn.nil w F zal rfl, (by intro e he; cases he), zaD.zero w F, LsIn.nil w F zaw rfl⟩
def KeptIR (w : World) (n : Nat) (i : Value) (wr : World) : Prop := ∃ k : Nat, k ≤ n + 12 ∧ i = .int .i64 k ∧ Nw w wr
theorem zek (w : World) (F1 F2 : Nat → Prop) (s : Ls Int) (hs : zbl w F1 3 1 zac behI s) (A2 : Option Addr) (c2 : Nat) (ys : List Int) (h2 : Sl w F2 A2 (zac ys)) (he : s.l = ys) (hsz : s.l.length ≤ 1000000000) :
  Calls Tryz.prog 210 #[s.v, .slice A2 ys.length c2] w fun e w' => e = .returned (.bool true) ∧ Nw w w' := by
 obtain ⟨g, hg, hc, hcm, ho, hF⟩ := hs
 rw [← he] at h2 ⊢
 clear he
 obtain ⟨n, hn⟩ : ∃ n, s.l.length = n := ⟨_, rfl⟩
 have hsl := zcN (P := Tryz.prog) 41 zgw 1 zhz (some ⟨g, 0, none⟩) n (n + 12) (n + 12) (Nat.le_refl _)
 have e12 : (((n + 12 : Nat)) : Int) = (n : Int) + 12 := by omega
 rw [e12] at hsl
 unfold Ls.v
 rw [hg, hc, hn]
 rw [hn] at ho hsz
 have HN := Lib.hid hn
 clear hg hc hn
 have hnn : ((n : Int) != (n : Int)) = false := by simp
 go_enter Tryz.func210, Tryz.ntmps210
 go_wp2_with fail
 go_loopw [6] (fun i wr => KeptIR w n i wr) (fun i _ => n + 12 - (intOf i).toNat)
 case atStart => exact ⟨0, by omega, rfl, Fr.refl _ _⟩
 case round =>
  obtain ⟨k, hk, rfl, hq⟩ := hrel
  by_cases hlt : k < n + 12
  ·have hl12 : k < (s.l ++ behI).length := by rw [List.length_append, zir, HN.out]; exact hlt
   obtain ⟨b1, o1, hbo, _, p0⟩ := ((ho.fr hq (fun _ _ h => h)).sl).get hl12
   injection hbo with hbo
   injection hbo with e1 e2 _
   subst e1
   subst e2
   have hi0 : (k : Int) < (n : Int) + 12 := by omega
   by_cases hlt2 : k < n
   ·have hkl : k < s.l.length := by rw [HN.out]; exact hlt2
    obtain ⟨b2, o2, rfl, _, r0⟩ := (h2.fr hq (fun _ _ h => h)).get hkl
    rw [List.getElem_append_left hkl] at p0
    obtain ⟨x, hx⟩ : ∃ x, s.l[k] = x := ⟨_, rfl⟩
    rw [hx] at p0 r0
    clear hx
    have hi1 : (k : Int) < (n : Int) := by omega
    have hi2 : decide ((n : Int) ≤ (k : Int)) = false := by simp; omega
    have hi3 : decide (n ≤ k) = false := by simp; omega
    have hi4 : decide ((k : Int) < (n : Int)) = true := decide_eq_true hi1
    have hi5 : decide (k < n) = true := decide_eq_true hlt2
    have heq : (x == x) = true := by simp
    have P0 := fun (m : za0 wr) => m.cell p0
    have R0 := fun (m : za0 wr) => m.cell r0
    simp only [Nat.zero_add] at P0
    clear p0 r0
    go_wp2_with fail
    refine zae (by kernel_rfl) (by kernel_rfl) ?_
    repeat (go_big_quiet_step (fail))
    refine zaj fun w5 q5 => ?_
    go_wp2_with fail
    go_roundw
    case rel => exact ⟨k + 1, by omega, by go_num, hq.tr q5⟩
    case measure => simp [intOf]; omega
   ·rw [List.getElem_append_right (by rw [HN.out]; omega)] at p0
    have hv : behI[k - s.l.length]'(by rw [zir, HN.out]; omega) = mkI 1 (k - n) := by simp [behI, HN.out]
    rw [hv] at p0
    clear hv
    have hi1 : decide ((k : Int) < (n : Int)) = false := by simp; omega
    have hi3 : decide (k < n) = false := by simp; omega
    have hi2 : (n : Int) ≤ (k : Int) := by omega
    have hi4 : decide ((n : Int) ≤ (k : Int)) = true := decide_eq_true hi2
    have hi5 : decide (n ≤ k) = true := decide_eq_true (by omega)
    obtain ⟨j, hj⟩ : ∃ j, j = k - n := ⟨_, rfl⟩
    rw [← hj] at p0
    have hju : ((j : Nat) : Int) = (k : Int) - (n : Int) := by omega
    have hmk : ∀ m : za0 wr, _ := fun m => zct m.at_ 1 j (by omega) (by omega)
    rw [hju] at hmk
    obtain ⟨z, hz⟩ : ∃ z, mkI 1 j = z := ⟨_, rfl⟩
    rw [hz] at p0
    simp only [hz] at hmk
    have heq : (z == z) = true := by simp
    have P0 := fun (m : za0 wr) => m.cell p0
    simp only [Nat.zero_add] at P0
    have HMK := Lib.hid hmk
    clear p0 hmk hju hj hz
    have hsub2 : IntKind.i64.wrap ((k : Int) - (n : Int)) = (k : Int) - (n : Int) := IntWalk.i64_in _ (by omega)
    go_wp2_with fail
    refine zae (by kernel_rfl) (by kernel_rfl) ?_
    repeat (go_big_quiet_step ((go_at_call 136; exact za0.same (HMK.out _))))
    refine zaj fun w5 q5 => ?_
    go_wp2_with fail
    go_roundw
    case rel => exact ⟨k + 1, by omega, by go_num, hq.tr q5⟩
    case measure => simp [intOf]; omega
  ·go_wp2_with fail
   go_ret
   exact ⟨rfl, hq⟩
theorem zfA (w : World) (F1 F2 : Nat → Prop) (s : Ls UInt8) (hs : zbl w F1 5 1 zaw behind s) (A2 : Option Addr) (c2 : Nat) (ys : List UInt8) (h2 : Sl w F2 A2 (zaw ys)) (he : s.l = ys) (hsz : s.l.length ≤ 1000000000) :
  Calls Tryz.prog 46 #[s.v, .slice A2 ys.length c2] w fun e w' => e = .returned (.bool true) ∧ Nw w w' := by
 obtain ⟨g, hg, hc, hcm, ho, hF⟩ := hs
 subst he
 have h := zme w F2 (some ⟨g, 0, none⟩) A2 c2 s.l ho h2 (by omega)
 unfold Ls.v
 rw [hg, hc]
 exact h.mono fun e w' h => ⟨h.1, h.2.fr _⟩
theorem zij (w : World) (F1 F2 : Nat → Prop) (x y : CfgM) (hx : zbL w F1 x) (hy : zaD w F2 y) (he : x.x = y.x) (hz : zaY x) :
  Calls Tryz.prog 161 #[.agg (cfgA x), .agg (cfgA y)] w fun e w' => e = .returned (.bool (true)) ∧ Nw w w' := by
 have h_v : x.v.l = y.v.l := congrArg Cfg.v he
 have h_o : x.o.l = y.o.l := congrArg Cfg.o he
 have h_l : x.l.l = y.l.l := congrArg Cfg.l he
 have h_w : x.w.l = y.w.l := congrArg Cfg.w he
 obtain ⟨W0, hW0⟩ : ∃ W, W = w.alloc (.cells (cfgA x) 45) := ⟨_, rfl⟩
 have p0 : Nw w W0 := by rw [hW0]; exact (Fr.refl (fun _ => False) _).alloc _
 have b0 : Blk W0 w.heap.size 45 (cfgA x) := by rw [hW0]; exact Blk.new _ _ _
 have hz1 : W0.heap.size = w.heap.size + 1 := by rw [hW0]; simp
 obtain ⟨W1, hW1⟩ : ∃ W, W = W0.alloc (.cells (cfgA y) 45) := ⟨_, rfl⟩
 have p1 : Nw W0 W1 := by rw [hW1]; exact (Fr.refl (fun _ => False) _).alloc _
 have b1 : Blk W1 (w.heap.size + 1) 45 (cfgA y) := by rw [hW1, ← hz1]; exact Blk.new _ _ _
 have Q0 : Nw w W1 := p0.tr p1
 have b0 := b0.fr p1 (fun h => h)
 have z1 : ∀ m : za0 W1, Calls Tryz.prog 159 #[.agg (cfgA x), .agg (cfgA y)] m.at_ fun e w' => e = .returned (.bool (true)) ∧ Nw m.at_ w' := fun m => by
  have f := Q0.tr m.nw
  exact (zg9 _ F1 F2 _ _ (hx.in_.nw f) (hy.nw f) hz).mono fun e w' h => ⟨by rw [decide_eq_true he] at h; exact h.1, h.2⟩
 have z2 : ∀ m : za0 W1, Calls Tryz.prog 210 #[.slice x.v.a x.v.l.length x.v.c, .slice y.v.a y.v.l.length y.v.c] m.at_ fun e w' => e = .returned (.bool (true)) ∧ Nw m.at_ w' := fun m => by
  have f := Q0.tr m.nw
  exact zek _ F1 F2 x.v (hx.v.nw f) _ _ _ ((hy.v.nw f).sl) h_v (by have := hz.v; omega)
 have z3 : ∀ m : za0 W1, Calls Tryz.prog 210 #[.slice x.o.a x.o.l.length x.o.c, .slice y.o.a y.o.l.length y.o.c] m.at_ fun e w' => e = .returned (.bool (true)) ∧ Nw m.at_ w' := fun m => by
  have f := Q0.tr m.nw
  exact zek _ F1 F2 x.o (hx.o.nw f) _ _ _ ((hy.o.nw f).sl) h_o (by have := hz.o; omega)
 have z4 : ∀ m : za0 W1, Calls Tryz.prog 210 #[.slice x.l.a x.l.l.length x.l.c, .slice y.l.a y.l.l.length y.l.c] m.at_ fun e w' => e = .returned (.bool (true)) ∧ Nw m.at_ w' := fun m => by
  have f := Q0.tr m.nw
  exact zek _ F1 F2 x.l (hx.l.nw f) _ _ _ ((hy.l.nw f).sl) h_l (by have := hz.l; omega)
 have z5 : ∀ m : za0 W1, Calls Tryz.prog 210 #[.slice x.w.a x.w.l.length x.w.c, .slice y.w.a y.w.l.length y.w.c] m.at_ fun e w' => e = .returned (.bool (true)) ∧ Nw m.at_ w' := fun m => by
  have f := Q0.tr m.nw
  exact zek _ F1 F2 x.w (hx.w.nw f) _ _ _ ((hy.w.nw f).sl) h_w (by have := hz.w; omega)
 have hS : ∀ w1, Nw W1 w1 → w1.cell? ⟨w.heap.size, 0, none⟩ = some (.slice x.v.a x.v.l.length x.v.c) ∧ w1.cell? ⟨w.heap.size, 1, none⟩ = some (.slice x.o.a x.o.l.length x.o.c) ∧ w1.cell? ⟨w.heap.size, 2, none⟩ = some (.slice x.l.a x.l.l.length x.l.c) ∧ w1.cell? ⟨w.heap.size, 3, none⟩ = some (.slice x.w.a x.w.l.length x.w.c) ∧ w1.cell? ⟨(w.heap.size + 1), 0, none⟩ = some (.slice y.v.a y.v.l.length y.v.c) ∧ w1.cell? ⟨(w.heap.size + 1), 1, none⟩ = some (.slice y.o.a y.o.l.length y.o.c) ∧ w1.cell? ⟨(w.heap.size + 1), 2, none⟩ = some (.slice y.l.a y.l.l.length y.l.c) ∧ w1.cell? ⟨(w.heap.size + 1), 3, none⟩ = some (.slice y.w.a y.w.l.length y.w.c) := fun w1 f => by
  have a0 := b0.fr f (fun h => h)
  have a1 := b1.fr f (fun h => h)
  exact ⟨by simpa using a0.cell 0, by simpa using a0.cell 1, by simpa using a0.cell 2, by simpa using a0.cell 3, by simpa using a1.cell 0, by simpa using a1.cell 1, by simpa using a1.cell 2, by simpa using a1.cell 3⟩
 have HW0 := Lib.hid hW0
 have HW1 := Lib.hid hW1
 clear hW0 b0 hW1 b1 
 clear h_v h_o h_l h_w he
 go_enter Tryz.func161, Tryz.ntmps161
 go_upto_region 1 with (fail)
 rw [← HW0.out, ← HW1.out]
 obtain ⟨k0_0_0, k0_0_1, k0_0_2, k0_0_3, k0_1_0, k0_1_1, k0_1_2, k0_1_3⟩ := hS W1 (Fr.refl _ _)
 go_wp2_with fail
 refine (z1 ⟨_, (Fr.refl (fun _ => False) W1)⟩).mono ?_
 rintro e v1 ⟨rfl, r1⟩
 have Q1 : Nw W1 v1 := (Fr.refl (fun _ => False) W1).tr r1
 obtain ⟨k1_0_0, _, _, _, k1_1_0, _, _, _⟩ := hS v1 Q1
 go_wp2_with fail
 refine (z2 ⟨_, Q1⟩).mono ?_
 rintro e v2 ⟨rfl, r2⟩
 have Q2 : Nw W1 v2 := Q1.tr r2
 obtain ⟨_, k2_0_1, _, _, _, k2_1_1, _, _⟩ := hS v2 Q2
 go_wp2_with fail
 refine (z3 ⟨_, Q2⟩).mono ?_
 rintro e v3 ⟨rfl, r3⟩
 have Q3 : Nw W1 v3 := Q2.tr r3
 obtain ⟨_, _, k3_0_2, _, _, _, k3_1_2, _⟩ := hS v3 Q3
 go_wp2_with fail
 refine (z4 ⟨_, Q3⟩).mono ?_
 rintro e v4 ⟨rfl, r4⟩
 have Q4 : Nw W1 v4 := Q3.tr r4
 obtain ⟨_, _, _, k4_0_3, _, _, _, k4_1_3⟩ := hS v4 Q4
 go_wp2_with fail
 refine (z5 ⟨_, Q4⟩).mono ?_
 rintro e v5 ⟨rfl, r5⟩
 have Q5 : Nw W1 v5 := Q4.tr r5
 go_wp2_with fail
 go_ret
 exact ⟨rfl, Q0.tr Q5⟩
theorem zm6 (w : World) (F1 F2 : Nat → Prop) (x y : EntM) (hx : zbX w F1 x) (hy : zau w F2 y) (he : x.x = y.x) (hz : zaW x) :
  Calls Tryz.prog 160 #[.agg (entA x), .agg (entA y)] w fun e w' => e = .returned (.bool (true)) ∧ Nw w w' := by
 have h_b : x.cmd.l = y.cmd.l := congrArg Ent.cmd he
 have h_c : x.cfg.x = y.cfg.x := congrArg Ent.cfg he
 obtain ⟨W0, hW0⟩ : ∃ W, W = w.alloc (.cells (entA x) 87) := ⟨_, rfl⟩
 have p0 : Nw w W0 := by rw [hW0]; exact (Fr.refl (fun _ => False) _).alloc _
 have b0 : Blk W0 w.heap.size 87 (entA x) := by rw [hW0]; exact Blk.new _ _ _
 have hz1 : W0.heap.size = w.heap.size + 1 := by rw [hW0]; simp
 obtain ⟨W1, hW1⟩ : ∃ W, W = W0.alloc (.cells (entA y) 87) := ⟨_, rfl⟩
 have p1 : Nw W0 W1 := by rw [hW1]; exact (Fr.refl (fun _ => False) _).alloc _
 have b1 : Blk W1 (w.heap.size + 1) 87 (entA y) := by rw [hW1, ← hz1]; exact Blk.new _ _ _
 have Q0 : Nw w W1 := p0.tr p1
 have b0 := b0.fr p1 (fun h => h)
 have z1 : ∀ m : za0 W1, Calls Tryz.prog 158 #[.agg (entA x), .agg (entA y)] m.at_ fun e w' => e = .returned (.bool (true)) ∧ Nw m.at_ w' := fun m => by
  have f := Q0.tr m.nw
  exact (zei _ F1 F2 _ _ (hx.in_.nw f) (hy.nw f) hz).mono fun e w' h => ⟨by rw [decide_eq_true he] at h; exact h.1, h.2⟩
 have z2 : ∀ m : za0 W1, Calls Tryz.prog 46 #[.slice x.cmd.a x.cmd.l.length x.cmd.c, .slice y.cmd.a y.cmd.l.length y.cmd.c] m.at_ fun e w' => e = .returned (.bool (true)) ∧ Nw m.at_ w' := fun m => by
  have f := Q0.tr m.nw
  exact zfA _ F1 F2 x.cmd (hx.cmd.nw f) _ _ _ ((hy.cmd.nw f).sl) h_b (by have := hz.cmd; omega)
 have z3 : ∀ m : za0 W1, Calls Tryz.prog 161 #[.agg (cfgA x.cfg), .agg (cfgA y.cfg)] m.at_ fun e w' => e = .returned (.bool (true)) ∧ Nw m.at_ w' := fun m => by
  have f := Q0.tr m.nw
  exact zij _ F1 F2 _ _ (hx.cfg.nw f) (hy.cfg.nw f) h_c hz.cfg
 have hS : ∀ w1, Nw W1 w1 → w1.cell? ⟨w.heap.size, 0, none⟩ = some (I64 x.term) ∧ w1.cell? ⟨w.heap.size, 1, none⟩ = some (U8V x.kind) ∧ w1.cell? ⟨w.heap.size, 2, none⟩ = some (.slice x.cmd.a x.cmd.l.length x.cmd.c) ∧ w1.cell? ⟨w.heap.size, 3, none⟩ = some (.slice x.cfg.v.a x.cfg.v.l.length x.cfg.v.c) ∧ w1.cell? ⟨w.heap.size, 4, none⟩ = some (.slice x.cfg.o.a x.cfg.o.l.length x.cfg.o.c) ∧ w1.cell? ⟨w.heap.size, 5, none⟩ = some (.slice x.cfg.l.a x.cfg.l.l.length x.cfg.l.c) ∧ w1.cell? ⟨w.heap.size, 6, none⟩ = some (.slice x.cfg.w.a x.cfg.w.l.length x.cfg.w.c) ∧ w1.cell? ⟨(w.heap.size + 1), 0, none⟩ = some (I64 y.term) ∧ w1.cell? ⟨(w.heap.size + 1), 1, none⟩ = some (U8V y.kind) ∧ w1.cell? ⟨(w.heap.size + 1), 2, none⟩ = some (.slice y.cmd.a y.cmd.l.length y.cmd.c) ∧ w1.cell? ⟨(w.heap.size + 1), 3, none⟩ = some (.slice y.cfg.v.a y.cfg.v.l.length y.cfg.v.c) ∧ w1.cell? ⟨(w.heap.size + 1), 4, none⟩ = some (.slice y.cfg.o.a y.cfg.o.l.length y.cfg.o.c) ∧ w1.cell? ⟨(w.heap.size + 1), 5, none⟩ = some (.slice y.cfg.l.a y.cfg.l.l.length y.cfg.l.c) ∧ w1.cell? ⟨(w.heap.size + 1), 6, none⟩ = some (.slice y.cfg.w.a y.cfg.w.l.length y.cfg.w.c) := fun w1 f => by
  have a0 := b0.fr f (fun h => h)
  have a1 := b1.fr f (fun h => h)
  exact ⟨by simpa using a0.cell 0, by simpa using a0.cell 1, by simpa using a0.cell 2, by simpa using a0.cell 3, by simpa using a0.cell 4, by simpa using a0.cell 5, by simpa using a0.cell 6, by simpa using a1.cell 0, by simpa using a1.cell 1, by simpa using a1.cell 2, by simpa using a1.cell 3, by simpa using a1.cell 4, by simpa using a1.cell 5, by simpa using a1.cell 6⟩
 have HW0 := Lib.hid hW0
 have HW1 := Lib.hid hW1
 clear hW0 b0 hW1 b1 
 clear h_b h_c he
 go_enter Tryz.func160, Tryz.ntmps160
 go_upto_region 1 with (fail)
 rw [← HW0.out, ← HW1.out]
 obtain ⟨k0_0_0, k0_0_1, k0_0_2, k0_0_3, k0_0_4, k0_0_5, k0_0_6, k0_1_0, k0_1_1, k0_1_2, k0_1_3, k0_1_4, k0_1_5, k0_1_6⟩ := hS W1 (Fr.refl _ _)
 go_wp2_with fail
 refine (z1 ⟨_, (Fr.refl (fun _ => False) W1)⟩).mono ?_
 rintro e v1 ⟨rfl, r1⟩
 have Q1 : Nw W1 v1 := (Fr.refl (fun _ => False) W1).tr r1
 obtain ⟨_, _, k1_0_2, _, _, _, _, _, _, k1_1_2, _, _, _, _⟩ := hS v1 Q1
 go_wp2_with fail
 refine (z2 ⟨_, Q1⟩).mono ?_
 rintro e v2 ⟨rfl, r2⟩
 have Q2 : Nw W1 v2 := Q1.tr r2
 obtain ⟨_, _, _, k2_0_3, k2_0_4, k2_0_5, k2_0_6, _, _, _, k2_1_3, k2_1_4, k2_1_5, k2_1_6⟩ := hS v2 Q2
 go_wp2_with fail
 refine (z3 ⟨_, Q2⟩).mono ?_
 rintro e v3 ⟨rfl, r3⟩
 have Q3 : Nw W1 v3 := Q2.tr r3
 go_wp2_with fail
 go_ret
 exact ⟨rfl, Q0.tr Q3⟩
theorem zlZ (w : World) (F1 F2 : Nat → Prop) (x y : BasM) (hx : zbL w F1 x.cfg) (hy : zaD w F2 y.cfg) (he : x.x = y.x) (hz : zaY x.cfg) :
  Calls Tryz.prog 91 #[.agg (basA x), .agg (basA y)] w fun e w' => e = .returned (.bool (true)) ∧ Nw w w' := by
 have h_c : x.cfg.x = y.cfg.x := congrArg Bas.cfg he
 obtain ⟨W0, hW0⟩ : ∃ W, W = w.alloc (.cells (basA x) 47) := ⟨_, rfl⟩
 have p0 : Nw w W0 := by rw [hW0]; exact (Fr.refl (fun _ => False) _).alloc _
 have b0 : Blk W0 w.heap.size 47 (basA x) := by rw [hW0]; exact Blk.new _ _ _
 have hz1 : W0.heap.size = w.heap.size + 1 := by rw [hW0]; simp
 obtain ⟨W1, hW1⟩ : ∃ W, W = W0.alloc (.cells (basA y) 47) := ⟨_, rfl⟩
 have p1 : Nw W0 W1 := by rw [hW1]; exact (Fr.refl (fun _ => False) _).alloc _
 have b1 : Blk W1 (w.heap.size + 1) 47 (basA y) := by rw [hW1, ← hz1]; exact Blk.new _ _ _
 have Q0 : Nw w W1 := p0.tr p1
 have b0 := b0.fr p1 (fun h => h)
 have z1 : ∀ m : za0 W1, Calls Tryz.prog 89 #[.agg (basA x), .agg (basA y)] m.at_ fun e w' => e = .returned (.bool (true)) ∧ Nw m.at_ w' := fun m => by
  have f := Q0.tr m.nw
  exact (ziA _ F1 F2 _ _ (hx.in_.nw f) (hy.nw f) hz).mono fun e w' h => ⟨by rw [decide_eq_true he] at h; exact h.1, h.2⟩
 have z2 : ∀ m : za0 W1, Calls Tryz.prog 161 #[.agg (cfgA x.cfg), .agg (cfgA y.cfg)] m.at_ fun e w' => e = .returned (.bool (true)) ∧ Nw m.at_ w' := fun m => by
  have f := Q0.tr m.nw
  exact zij _ F1 F2 _ _ (hx.nw f) (hy.nw f) h_c hz
 have hS : ∀ w1, Nw W1 w1 → w1.cell? ⟨w.heap.size, 0, none⟩ = some (I64 x.index) ∧ w1.cell? ⟨w.heap.size, 1, none⟩ = some (I64 x.term) ∧ w1.cell? ⟨w.heap.size, 2, none⟩ = some (.slice x.cfg.v.a x.cfg.v.l.length x.cfg.v.c) ∧ w1.cell? ⟨w.heap.size, 3, none⟩ = some (.slice x.cfg.o.a x.cfg.o.l.length x.cfg.o.c) ∧ w1.cell? ⟨w.heap.size, 4, none⟩ = some (.slice x.cfg.l.a x.cfg.l.l.length x.cfg.l.c) ∧ w1.cell? ⟨w.heap.size, 5, none⟩ = some (.slice x.cfg.w.a x.cfg.w.l.length x.cfg.w.c) ∧ w1.cell? ⟨(w.heap.size + 1), 0, none⟩ = some (I64 y.index) ∧ w1.cell? ⟨(w.heap.size + 1), 1, none⟩ = some (I64 y.term) ∧ w1.cell? ⟨(w.heap.size + 1), 2, none⟩ = some (.slice y.cfg.v.a y.cfg.v.l.length y.cfg.v.c) ∧ w1.cell? ⟨(w.heap.size + 1), 3, none⟩ = some (.slice y.cfg.o.a y.cfg.o.l.length y.cfg.o.c) ∧ w1.cell? ⟨(w.heap.size + 1), 4, none⟩ = some (.slice y.cfg.l.a y.cfg.l.l.length y.cfg.l.c) ∧ w1.cell? ⟨(w.heap.size + 1), 5, none⟩ = some (.slice y.cfg.w.a y.cfg.w.l.length y.cfg.w.c) := fun w1 f => by
  have a0 := b0.fr f (fun h => h)
  have a1 := b1.fr f (fun h => h)
  exact ⟨by simpa using a0.cell 0, by simpa using a0.cell 1, by simpa using a0.cell 2, by simpa using a0.cell 3, by simpa using a0.cell 4, by simpa using a0.cell 5, by simpa using a1.cell 0, by simpa using a1.cell 1, by simpa using a1.cell 2, by simpa using a1.cell 3, by simpa using a1.cell 4, by simpa using a1.cell 5⟩
 have HW0 := Lib.hid hW0
 have HW1 := Lib.hid hW1
 clear hW0 b0 hW1 b1 
 clear h_c he
 go_enter Tryz.func91, Tryz.ntmps91
 go_upto_region 1 with (fail)
 rw [← HW0.out, ← HW1.out]
 obtain ⟨k0_0_0, k0_0_1, k0_0_2, k0_0_3, k0_0_4, k0_0_5, k0_1_0, k0_1_1, k0_1_2, k0_1_3, k0_1_4, k0_1_5⟩ := hS W1 (Fr.refl _ _)
 go_wp2_with fail
 refine (z1 ⟨_, (Fr.refl (fun _ => False) W1)⟩).mono ?_
 rintro e v1 ⟨rfl, r1⟩
 have Q1 : Nw W1 v1 := (Fr.refl (fun _ => False) W1).tr r1
 obtain ⟨_, _, k1_0_2, k1_0_3, k1_0_4, k1_0_5, _, _, k1_1_2, k1_1_3, k1_1_4, k1_1_5⟩ := hS v1 Q1
 go_wp2_with fail
 refine (z2 ⟨_, Q1⟩).mono ?_
 rintro e v2 ⟨rfl, r2⟩
 have Q2 : Nw W1 v2 := Q1.tr r2
 go_wp2_with fail
 go_ret
 exact ⟨rfl, Q0.tr Q2⟩
end Go.Proofs.YtippdjaakcgeoaaGreat
