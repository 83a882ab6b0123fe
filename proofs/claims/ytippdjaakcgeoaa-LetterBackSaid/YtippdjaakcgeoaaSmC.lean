/- The statements' kit: letters held against each other. (Printed by gensmb.py.) -/
import Derived.Test.YtippdjaakcgeoaaSmB
import Derived.Test.YtippdjaakcgeoaaQld
namespace Go.Proofs.Ytippdjaakcgeoaa
open Go Go.RowKit
set_option linter.unusedVariables false
set_option linter.unusedSimpArgs false
theorem let_eq (x y : LetM) : decide (x.x = y.x) = (decide (x.kind = y.kind) && (decide (x.group = y.group) && (decide (x.src = y.src) && (decide (x.dst = y.dst) && (decide (x.term = y.term) && (decide (x.index = y.index) && (decide (x.logt = y.logt) && (decide (x.commit = y.commit) && (decide (x.ok = y.ok) && (decide (x.ents.l.map EntM.x = y.ents.l.map EntM.x) && (decide (x.base.x = y.base.x) && (decide (x.size = y.size) && (decide (x.at_ = y.at_) && (decide (x.tag = y.tag) && decide (x.bytes.l = y.bytes.l))))))))))))))) := by
  rw [Bool.eq_iff_iff]
  simp only [decide_eq_true_eq, Bool.and_eq_true, LetF.mk.injEq]
theorem beq_bool (a b : Bool) : (a == b) = decide (a = b) := by cases a <;> cases b <;> rfl
set_option maxRecDepth 100000 in
set_option maxHeartbeats 40000000 in
theorem same_let (w : World) (F1 F2 : Nat → Prop) (x y : LetM) (hx : LetIn w F1 x) (hy : LetIn w F2 y) (hz : LetSz x) :
    Calls Try.prog 35 #[.agg (letA x), .agg (letA y)] w fun e w' => e = .returned (.bool (decide (x.x = y.x))) ∧ Nw w w' := by
  rw [let_eq]
  obtain ⟨W0, hW0⟩ : ∃ W, W = w.alloc (.cells #[U8V x.kind, I64 x.group, I64 x.src, I64 x.dst, I64 x.term, I64 x.index, I64 x.logt, I64 x.commit, .bool x.ok, .slice x.ents.a x.ents.l.length x.ents.c, I64 x.base.index, I64 x.base.term, .slice x.base.cfg.v.a x.base.cfg.v.l.length x.base.cfg.v.c, .slice x.base.cfg.o.a x.base.cfg.o.l.length x.base.cfg.o.c, .slice x.base.cfg.l.a x.base.cfg.l.l.length x.base.cfg.l.c, .slice x.base.cfg.w.a x.base.cfg.w.l.length x.base.cfg.w.c, I64 x.size, I64 x.at_, I64 x.tag, .slice x.bytes.a x.bytes.l.length x.bytes.c] 40) := ⟨_, rfl⟩
  have p0 : Nw w W0 := by rw [hW0]; exact (Fr.refl (fun _ => False) _).alloc _
  have b0 : Blk W0 w.heap.size 40 #[U8V x.kind, I64 x.group, I64 x.src, I64 x.dst, I64 x.term, I64 x.index, I64 x.logt, I64 x.commit, .bool x.ok, .slice x.ents.a x.ents.l.length x.ents.c, I64 x.base.index, I64 x.base.term, .slice x.base.cfg.v.a x.base.cfg.v.l.length x.base.cfg.v.c, .slice x.base.cfg.o.a x.base.cfg.o.l.length x.base.cfg.o.c, .slice x.base.cfg.l.a x.base.cfg.l.l.length x.base.cfg.l.c, .slice x.base.cfg.w.a x.base.cfg.w.l.length x.base.cfg.w.c, I64 x.size, I64 x.at_, I64 x.tag, .slice x.bytes.a x.bytes.l.length x.bytes.c] := by rw [hW0]; exact Blk.new _ _ _
  have hz1 : W0.heap.size = w.heap.size + 1 := by rw [hW0]; simp
  obtain ⟨W1, hW1⟩ : ∃ W, W = W0.alloc (.cells #[U8V y.kind, I64 y.group, I64 y.src, I64 y.dst, I64 y.term, I64 y.index, I64 y.logt, I64 y.commit, .bool y.ok, .slice y.ents.a y.ents.l.length y.ents.c, I64 y.base.index, I64 y.base.term, .slice y.base.cfg.v.a y.base.cfg.v.l.length y.base.cfg.v.c, .slice y.base.cfg.o.a y.base.cfg.o.l.length y.base.cfg.o.c, .slice y.base.cfg.l.a y.base.cfg.l.l.length y.base.cfg.l.c, .slice y.base.cfg.w.a y.base.cfg.w.l.length y.base.cfg.w.c, I64 y.size, I64 y.at_, I64 y.tag, .slice y.bytes.a y.bytes.l.length y.bytes.c] 40) := ⟨_, rfl⟩
  have p1 : Nw W0 W1 := by rw [hW1]; exact (Fr.refl (fun _ => False) _).alloc _
  have b1 : Blk W1 (w.heap.size + 1) 40 #[U8V y.kind, I64 y.group, I64 y.src, I64 y.dst, I64 y.term, I64 y.index, I64 y.logt, I64 y.commit, .bool y.ok, .slice y.ents.a y.ents.l.length y.ents.c, I64 y.base.index, I64 y.base.term, .slice y.base.cfg.v.a y.base.cfg.v.l.length y.base.cfg.v.c, .slice y.base.cfg.o.a y.base.cfg.o.l.length y.base.cfg.o.c, .slice y.base.cfg.l.a y.base.cfg.l.l.length y.base.cfg.l.c, .slice y.base.cfg.w.a y.base.cfg.w.l.length y.base.cfg.w.c, I64 y.size, I64 y.at_, I64 y.tag, .slice y.bytes.a y.bytes.l.length y.bytes.c] := by rw [hW1, ← hz1]; exact Blk.new _ _ _
  have Q0 : Nw w W1 := p0.tr p1
  have b0 := b0.fr p1 (fun h => h)
  have z1 : (x.kind == y.kind) = (decide (x.kind = y.kind)) := rfl
  obtain ⟨d1, e1⟩ : ∃ d, (decide (x.kind = y.kind)) = d := ⟨_, rfl⟩
  simp only [e1] at z1 ⊢
  have z2 : (x.group == y.group) = (decide (x.group = y.group)) := rfl
  obtain ⟨d2, e2⟩ : ∃ d, (decide (x.group = y.group)) = d := ⟨_, rfl⟩
  simp only [e2] at z2 ⊢
  have z3 : (x.src == y.src) = (decide (x.src = y.src)) := rfl
  obtain ⟨d3, e3⟩ : ∃ d, (decide (x.src = y.src)) = d := ⟨_, rfl⟩
  simp only [e3] at z3 ⊢
  have z4 : (x.dst == y.dst) = (decide (x.dst = y.dst)) := rfl
  obtain ⟨d4, e4⟩ : ∃ d, (decide (x.dst = y.dst)) = d := ⟨_, rfl⟩
  simp only [e4] at z4 ⊢
  have z5 : (x.term == y.term) = (decide (x.term = y.term)) := rfl
  obtain ⟨d5, e5⟩ : ∃ d, (decide (x.term = y.term)) = d := ⟨_, rfl⟩
  simp only [e5] at z5 ⊢
  have z6 : (x.index == y.index) = (decide (x.index = y.index)) := rfl
  obtain ⟨d6, e6⟩ : ∃ d, (decide (x.index = y.index)) = d := ⟨_, rfl⟩
  simp only [e6] at z6 ⊢
  have z7 : (x.logt == y.logt) = (decide (x.logt = y.logt)) := rfl
  obtain ⟨d7, e7⟩ : ∃ d, (decide (x.logt = y.logt)) = d := ⟨_, rfl⟩
  simp only [e7] at z7 ⊢
  have z8 : (x.commit == y.commit) = (decide (x.commit = y.commit)) := rfl
  obtain ⟨d8, e8⟩ : ∃ d, (decide (x.commit = y.commit)) = d := ⟨_, rfl⟩
  simp only [e8] at z8 ⊢
  have z9 : (x.ok == y.ok) = (decide (x.ok = y.ok)) := beq_bool _ _
  obtain ⟨d9, e9⟩ : ∃ d, (decide (x.ok = y.ok)) = d := ⟨_, rfl⟩
  simp only [e9] at z9 ⊢
  have z10 : ∀ m : Later W1, Calls Try.prog 68 #[.slice x.ents.a x.ents.l.length x.ents.c, .slice y.ents.a y.ents.l.length y.ents.c] m.at_ fun e w' => e = .returned (.bool (decide (x.ents.l.map EntM.x = y.ents.l.map EntM.x))) ∧ Nw m.at_ w' := fun m => by
    have f := Q0.tr m.nw
    exact same_ents _ F1 F2 _ _ _ _ _ _ (hx.ents.nw f).sl (hy.ents.nw f).sl (fun e he => (hx.each e he).nw f) (fun e he => (hy.each e he).nw f) hz.each (by have := hz.ents; omega)
  obtain ⟨d10, e10⟩ : ∃ d, (decide (x.ents.l.map EntM.x = y.ents.l.map EntM.x)) = d := ⟨_, rfl⟩
  simp only [e10] at z10 ⊢
  have z11 : ∀ m : Later W1, Calls Try.prog 69 #[.agg #[I64 x.base.index, I64 x.base.term, .slice x.base.cfg.v.a x.base.cfg.v.l.length x.base.cfg.v.c, .slice x.base.cfg.o.a x.base.cfg.o.l.length x.base.cfg.o.c, .slice x.base.cfg.l.a x.base.cfg.l.l.length x.base.cfg.l.c, .slice x.base.cfg.w.a x.base.cfg.w.l.length x.base.cfg.w.c], .agg #[I64 y.base.index, I64 y.base.term, .slice y.base.cfg.v.a y.base.cfg.v.l.length y.base.cfg.v.c, .slice y.base.cfg.o.a y.base.cfg.o.l.length y.base.cfg.o.c, .slice y.base.cfg.l.a y.base.cfg.l.l.length y.base.cfg.l.c, .slice y.base.cfg.w.a y.base.cfg.w.l.length y.base.cfg.w.c]] m.at_ fun e w' => e = .returned (.bool (decide (x.base.x = y.base.x))) ∧ Nw m.at_ w' := fun m => by
    have f := Q0.tr m.nw
    exact same_bas _ F1 F2 _ _ (hx.cfg.nw f) (hy.cfg.nw f) hz.cfg
  obtain ⟨d11, e11⟩ : ∃ d, (decide (x.base.x = y.base.x)) = d := ⟨_, rfl⟩
  simp only [e11] at z11 ⊢
  have z12 : (x.size == y.size) = (decide (x.size = y.size)) := rfl
  obtain ⟨d12, e12⟩ : ∃ d, (decide (x.size = y.size)) = d := ⟨_, rfl⟩
  simp only [e12] at z12 ⊢
  have z13 : (x.at_ == y.at_) = (decide (x.at_ = y.at_)) := rfl
  obtain ⟨d13, e13⟩ : ∃ d, (decide (x.at_ = y.at_)) = d := ⟨_, rfl⟩
  simp only [e13] at z13 ⊢
  have z14 : (x.tag == y.tag) = (decide (x.tag = y.tag)) := rfl
  obtain ⟨d14, e14⟩ : ∃ d, (decide (x.tag = y.tag)) = d := ⟨_, rfl⟩
  simp only [e14] at z14 ⊢
  have z15 : ∀ m : Later W1, Calls Try.prog 26 #[.slice x.bytes.a x.bytes.l.length x.bytes.c, .slice y.bytes.a y.bytes.l.length y.bytes.c] m.at_ fun e w' => e = .returned (.bool (decide (x.bytes.l = y.bytes.l))) ∧ Nw m.at_ w' := fun m => by
    have f := Q0.tr m.nw
    exact (same_u8 _ F1 F2 _ _ _ _ _ _ (hx.bytes.nw f).sl (hy.bytes.nw f).sl (by have := hz.bytes; omega)).mono fun e w' h => ⟨h.1, h.2.fr _⟩
  obtain ⟨d15, e15⟩ : ∃ d, (decide (x.bytes.l = y.bytes.l)) = d := ⟨_, rfl⟩
  simp only [e15] at z15 ⊢
  have hS : ∀ w1, Nw W1 w1 → w1.cell? ⟨w.heap.size, 0, none⟩ = some (U8V x.kind) ∧ w1.cell? ⟨w.heap.size, 1, none⟩ = some (I64 x.group) ∧ w1.cell? ⟨w.heap.size, 2, none⟩ = some (I64 x.src) ∧ w1.cell? ⟨w.heap.size, 3, none⟩ = some (I64 x.dst) ∧ w1.cell? ⟨w.heap.size, 4, none⟩ = some (I64 x.term) ∧ w1.cell? ⟨w.heap.size, 5, none⟩ = some (I64 x.index) ∧ w1.cell? ⟨w.heap.size, 6, none⟩ = some (I64 x.logt) ∧ w1.cell? ⟨w.heap.size, 7, none⟩ = some (I64 x.commit) ∧ w1.cell? ⟨w.heap.size, 8, none⟩ = some (.bool x.ok) ∧ w1.cell? ⟨w.heap.size, 9, none⟩ = some (.slice x.ents.a x.ents.l.length x.ents.c) ∧ w1.cell? ⟨w.heap.size, 10, none⟩ = some (I64 x.base.index) ∧ w1.cell? ⟨w.heap.size, 11, none⟩ = some (I64 x.base.term) ∧ w1.cell? ⟨w.heap.size, 12, none⟩ = some (.slice x.base.cfg.v.a x.base.cfg.v.l.length x.base.cfg.v.c) ∧ w1.cell? ⟨w.heap.size, 13, none⟩ = some (.slice x.base.cfg.o.a x.base.cfg.o.l.length x.base.cfg.o.c) ∧ w1.cell? ⟨w.heap.size, 14, none⟩ = some (.slice x.base.cfg.l.a x.base.cfg.l.l.length x.base.cfg.l.c) ∧ w1.cell? ⟨w.heap.size, 15, none⟩ = some (.slice x.base.cfg.w.a x.base.cfg.w.l.length x.base.cfg.w.c) ∧ w1.cell? ⟨w.heap.size, 16, none⟩ = some (I64 x.size) ∧ w1.cell? ⟨w.heap.size, 17, none⟩ = some (I64 x.at_) ∧ w1.cell? ⟨w.heap.size, 18, none⟩ = some (I64 x.tag) ∧ w1.cell? ⟨w.heap.size, 19, none⟩ = some (.slice x.bytes.a x.bytes.l.length x.bytes.c) ∧ w1.cell? ⟨(w.heap.size + 1), 0, none⟩ = some (U8V y.kind) ∧ w1.cell? ⟨(w.heap.size + 1), 1, none⟩ = some (I64 y.group) ∧ w1.cell? ⟨(w.heap.size + 1), 2, none⟩ = some (I64 y.src) ∧ w1.cell? ⟨(w.heap.size + 1), 3, none⟩ = some (I64 y.dst) ∧ w1.cell? ⟨(w.heap.size + 1), 4, none⟩ = some (I64 y.term) ∧ w1.cell? ⟨(w.heap.size + 1), 5, none⟩ = some (I64 y.index) ∧ w1.cell? ⟨(w.heap.size + 1), 6, none⟩ = some (I64 y.logt) ∧ w1.cell? ⟨(w.heap.size + 1), 7, none⟩ = some (I64 y.commit) ∧ w1.cell? ⟨(w.heap.size + 1), 8, none⟩ = some (.bool y.ok) ∧ w1.cell? ⟨(w.heap.size + 1), 9, none⟩ = some (.slice y.ents.a y.ents.l.length y.ents.c) ∧ w1.cell? ⟨(w.heap.size + 1), 10, none⟩ = some (I64 y.base.index) ∧ w1.cell? ⟨(w.heap.size + 1), 11, none⟩ = some (I64 y.base.term) ∧ w1.cell? ⟨(w.heap.size + 1), 12, none⟩ = some (.slice y.base.cfg.v.a y.base.cfg.v.l.length y.base.cfg.v.c) ∧ w1.cell? ⟨(w.heap.size + 1), 13, none⟩ = some (.slice y.base.cfg.o.a y.base.cfg.o.l.length y.base.cfg.o.c) ∧ w1.cell? ⟨(w.heap.size + 1), 14, none⟩ = some (.slice y.base.cfg.l.a y.base.cfg.l.l.length y.base.cfg.l.c) ∧ w1.cell? ⟨(w.heap.size + 1), 15, none⟩ = some (.slice y.base.cfg.w.a y.base.cfg.w.l.length y.base.cfg.w.c) ∧ w1.cell? ⟨(w.heap.size + 1), 16, none⟩ = some (I64 y.size) ∧ w1.cell? ⟨(w.heap.size + 1), 17, none⟩ = some (I64 y.at_) ∧ w1.cell? ⟨(w.heap.size + 1), 18, none⟩ = some (I64 y.tag) ∧ w1.cell? ⟨(w.heap.size + 1), 19, none⟩ = some (.slice y.bytes.a y.bytes.l.length y.bytes.c) := fun w1 f => by
    have a0 := b0.fr f (fun h => h)
    have a1 := b1.fr f (fun h => h)
    exact ⟨by simpa using a0.cell 0, by simpa using a0.cell 1, by simpa using a0.cell 2, by simpa using a0.cell 3, by simpa using a0.cell 4, by simpa using a0.cell 5, by simpa using a0.cell 6, by simpa using a0.cell 7, by simpa using a0.cell 8, by simpa using a0.cell 9, by simpa using a0.cell 10, by simpa using a0.cell 11, by simpa using a0.cell 12, by simpa using a0.cell 13, by simpa using a0.cell 14, by simpa using a0.cell 15, by simpa using a0.cell 16, by simpa using a0.cell 17, by simpa using a0.cell 18, by simpa using a0.cell 19, by simpa using a1.cell 0, by simpa using a1.cell 1, by simpa using a1.cell 2, by simpa using a1.cell 3, by simpa using a1.cell 4, by simpa using a1.cell 5, by simpa using a1.cell 6, by simpa using a1.cell 7, by simpa using a1.cell 8, by simpa using a1.cell 9, by simpa using a1.cell 10, by simpa using a1.cell 11, by simpa using a1.cell 12, by simpa using a1.cell 13, by simpa using a1.cell 14, by simpa using a1.cell 15, by simpa using a1.cell 16, by simpa using a1.cell 17, by simpa using a1.cell 18, by simpa using a1.cell 19⟩
  have HW0 := Lib.hid hW0
  have HW1 := Lib.hid hW1
  clear hW0 b0 hW1 b1 e1 e2 e3 e4 e5 e6 e7 e8 e9 e10 e11 e12 e13 e14 e15
  go_enter Try.func35, Try.ntmps35
  go_upto_region 1 with (fail)
  rw [← HW0.out, ← HW1.out]
  obtain ⟨k0_0_0, k0_0_1, k0_0_2, k0_0_3, k0_0_4, k0_0_5, k0_0_6, k0_0_7, k0_0_8, k0_0_9, _, _, _, _, _, _, _, _, _, _, k0_1_0, k0_1_1, k0_1_2, k0_1_3, k0_1_4, k0_1_5, k0_1_6, k0_1_7, k0_1_8, k0_1_9, _, _, _, _, _, _, _, _, _, _⟩ := hS W1 (Fr.refl _ _)
  have HS := Lib.hid hS
  clear hS
  go_wp2_with fail
  any_goals (go_ret; exact ⟨ret_eq (congrArg Value.bool (by simp [*])), Q0.tr (Fr.refl (fun _ => False) W1)⟩)
  refine (z10 ⟨_, (Fr.refl (fun _ => False) W1)⟩).mono ?_
  rintro e v1 ⟨rfl, r1⟩
  have Q1 : Nw W1 v1 := (Fr.refl (fun _ => False) W1).tr r1
  obtain ⟨_, _, _, _, _, _, _, _, _, _, k1_0_10, k1_0_11, k1_0_12, k1_0_13, k1_0_14, k1_0_15, _, _, _, _, _, _, _, _, _, _, _, _, _, _, k1_1_10, k1_1_11, k1_1_12, k1_1_13, k1_1_14, k1_1_15, _, _, _, _⟩ := HS.out v1 Q1
  go_wp2_with fail
  any_goals (go_ret; exact ⟨ret_eq (congrArg Value.bool (by simp [*])), Q0.tr Q1⟩)
  refine (z11 ⟨_, Q1⟩).mono ?_
  rintro e v2 ⟨rfl, r2⟩
  have Q2 : Nw W1 v2 := Q1.tr r2
  obtain ⟨_, _, _, _, _, _, _, _, _, _, _, _, _, _, _, _, k2_0_16, k2_0_17, k2_0_18, k2_0_19, _, _, _, _, _, _, _, _, _, _, _, _, _, _, _, _, k2_1_16, k2_1_17, k2_1_18, k2_1_19⟩ := HS.out v2 Q2
  go_wp2_with fail
  any_goals (go_ret; exact ⟨ret_eq (congrArg Value.bool (by simp [*])), Q0.tr Q2⟩)
  refine (z15 ⟨_, Q2⟩).mono ?_
  rintro e v3 ⟨rfl, r3⟩
  have Q3 : Nw W1 v3 := Q2.tr r3
  go_wp2_with fail
  all_goals (go_ret; exact ⟨ret_eq (congrArg Value.bool (by simp [*])), Q0.tr Q3⟩)
end Go.Proofs.Ytippdjaakcgeoaa
