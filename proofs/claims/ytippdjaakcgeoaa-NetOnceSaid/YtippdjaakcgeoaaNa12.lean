/- Lemmas of the walks: SmC, SmD, Bld, NcB. (Laid together by shake.py.) -/
import Derived.Test.YtippdjaakcgeoaaNa01
import Derived.Test.YtippdjaakcgeoaaNa04
import Derived.Test.YtippdjaakcgeoaaNa10
import Derived.Test.YtippdjaakcgeoaaNa11
set_option linter.unusedVariables false
set_option linter.unusedSimpArgs false
namespace Go.Proofs.Ytippdjaakcgeoaa
open Go Go.RowKit
set_option linter.unusedVariables false
set_option linter.unusedSimpArgs false
theorem let_eq (x y : LetM) : decide (x.x = y.x) = (decide (x.kind = y.kind) && (decide (x.group = y.group) && (decide (x.src = y.src) && (decide (x.dst = y.dst) && (decide (x.term = y.term) && (decide (x.index = y.index) && (decide (x.logt = y.logt) && (decide (x.commit = y.commit) && (decide (x.ok = y.ok) && (decide (x.ents.l.map EntM.x = y.ents.l.map EntM.x) && (decide (x.base.x = y.base.x) && (decide (x.size = y.size) && (decide (x.at_ = y.at_) && (decide (x.tag = y.tag) && decide (x.bytes.l = y.bytes.l))))))))))))))) := by
  rw [Bool.eq_iff_iff]
  simp only [decide_eq_true_eq, Bool.and_eq_true, LetF.mk.injEq]
theorem beq_bool (a b : Bool) : (a == b) = decide (a = b) := by cases a <;> cases b <;> rfl
set_option maxRecDepth 100000 in
set_option maxHeartbeats 40000000 in
theorem same_let (w : World) (F1 F2 : Nat → Prop) (x y : LetM) (hx : LetIn w F1 x) (hy : LetIn w F2 y) (hz : LetSz x) :
    Calls Try.prog 35 #[.agg (letA x), .agg (letA y)] w fun e w' => e = .returned (.bool (decide (x.x = y.x))) ∧ Nw w w' := by
  rw [let_eq]
  obtain ⟨W0, hW0⟩ : ∃ W, W = w.alloc (.cells #[U8V x.kind, I64 x.group, I64 x.src, I64 x.dst, I64 x.term, I64 x.index, I64 x.logt, I64 x.commit, .bool x.ok, .slice x.ents.a x.ents.l.length x.ents.c, I64 x.base.index, I64 x.base.term, .slice x.base.cfg.v.a x.base.cfg.v.l.length x.base.cfg.v.c, .slice x.base.cfg.o.a x.base.cfg.o.l.length x.base.cfg.o.c, .slice x.base.cfg.l.a x.base.cfg.l.l.length x.base.cfg.l.c, .slice x.base.cfg.w.a x.base.cfg.w.l.length x.base.cfg.w.c, I64 x.size, I64 x.at_, I64 x.tag, .slice x.bytes.a x.bytes.l.length x.bytes.c] 40) := ⟨_, rfl⟩
  have p0 : Nw w W0 := by rw [hW0]; exact (Fr.refl (fun _ => False) _).alloc _
  have b0 : Blk W0 w.heap.size 40 #[U8V x.kind, I64 x.group, I64 x.src, I64 x.dst, I64 x.term, I64 x.index, I64 x.logt, I64 x.commit, .bool x.ok, .slice x.ents.a x.ents.l.length x.ents.c, I64 x.base.index, I64 x.base.term, .slice x.base.cfg.v.a x.base.cfg.v.l.length x.base.cfg.v.c, .slice x.base.cfg.o.a x.base.cfg.o.l.length x.base.cfg.o.c, .slice x.base.cfg.l.a x.base.cfg.l.l.length x.base.cfg.l.c, .slice x.base.cfg.w.a x.base.cfg.w.l.length x.base.cfg.w.c, I64 x.size, I64 x.at_, I64 x.tag, .slice x.bytes.a x.bytes.l.length x.bytes.c] := by rw [hW0]; exact Blk.new _ _ _
  have hz1 : W0.heap.size = w.heap.size + 1 := by rw [hW0]; simp
  obtain ⟨W1, hW1⟩ : ∃ W, W = W0.alloc (.cells #[U8V y.kind, I64 y.group, I64 y.src, I64 y.dst, I64 y.term, I64 y.index, I64 y.logt, I64 y.commit, .bool y.ok, .slice y.ents.a y.ents.l.length y.ents.c, I64 y.base.index, I64 y.base.term, .slice y.base.cfg.v.a y.base.cfg.v.l.length y.base.cfg.v.c, .slice y.base.cfg.o.a y.base.cfg.o.l.length y.base.cfg.o.c, .slice y.base.cfg.l.a y.base.cfg.l.l.length y.base.cfg.l.c, .slice y.base.cfg.w.a y.base.cfg.w.l.length y.base.cfg.w.c, I64 y.size, I64 y.at_, I64 y.tag, .slice y.bytes.a y.bytes.l.length y.bytes.c] 40) := ⟨_, rfl⟩
  have p1 : Nw W0 W1 := by rw [hW1]; exact (Fr.refl (fun _ => False) _).alloc _
  have b1 : Blk W1 (w.heap.size + 1) 40 #[U8V y.kind, I64 y.group, I64 y.src, I64 y.dst, I64 y.term, I64 y.index, I64 y.logt, I64 y.commit, .bool y.ok, .slice y.ents.a y.ents.l.length y.ents.c, I64 y.base.index, I64 y.base.term, .slice y.base.cfg.v.a y.base.cfg.v.l.length y.base.cfg.v.c, .slice y.base.cfg.o.a y.base.cfg.o.l.length y.base.cfg.o.c, .slice y.base.cfg.l.a y.base.cfg.l.l.length y.base.cfg.l.c, .slice y.base.cfg.w.a y.base.cfg.w.l.length y.base.cfg.w.c, I64 y.size, I64 y.at_, I64 y.tag, .slice y.bytes.a y.bytes.l.length y.bytes.c] := by rw [hW1, ← hz1]; exact Blk.new _ _ _
  have Q0 : Nw w W1 := p0.tr p1
  have b0 := b0.fr p1 (fun h => h)
  have z1 : (x.kind == y.kind) = (decide (x.kind = y.kind)) := rfl
  obtain ⟨d1, e1⟩ : ∃ d, (decide (x.kind = y.kind)) = d := ⟨_, rfl⟩
  simp only [e1] at z1 ⊢
  have z2 : (x.group == y.group) = (decide (x.group = y.group)) := rfl
  obtain ⟨d2, e2⟩ : ∃ d, (decide (x.group = y.group)) = d := ⟨_, rfl⟩
  simp only [e2] at z2 ⊢
  have z3 : (x.src == y.src) = (decide (x.src = y.src)) := rfl
  obtain ⟨d3, e3⟩ : ∃ d, (decide (x.src = y.src)) = d := ⟨_, rfl⟩
  simp only [e3] at z3 ⊢
  have z4 : (x.dst == y.dst) = (decide (x.dst = y.dst)) := rfl
  obtain ⟨d4, e4⟩ : ∃ d, (decide (x.dst = y.dst)) = d := ⟨_, rfl⟩
  simp only [e4] at z4 ⊢
  have z5 : (x.term == y.term) = (decide (x.term = y.term)) := rfl
  obtain ⟨d5, e5⟩ : ∃ d, (decide (x.term = y.term)) = d := ⟨_, rfl⟩
  simp only [e5] at z5 ⊢
  have z6 : (x.index == y.index) = (decide (x.index = y.index)) := rfl
  obtain ⟨d6, e6⟩ : ∃ d, (decide (x.index = y.index)) = d := ⟨_, rfl⟩
  simp only [e6] at z6 ⊢
  have z7 : (x.logt == y.logt) = (decide (x.logt = y.logt)) := rfl
  obtain ⟨d7, e7⟩ : ∃ d, (decide (x.logt = y.logt)) = d := ⟨_, rfl⟩
  simp only [e7] at z7 ⊢
  have z8 : (x.commit == y.commit) = (decide (x.commit = y.commit)) := rfl
  obtain ⟨d8, e8⟩ : ∃ d, (decide (x.commit = y.commit)) = d := ⟨_, rfl⟩
  simp only [e8] at z8 ⊢
  have z9 : (x.ok == y.ok) = (decide (x.ok = y.ok)) := beq_bool _ _
  obtain ⟨d9, e9⟩ : ∃ d, (decide (x.ok = y.ok)) = d := ⟨_, rfl⟩
  simp only [e9] at z9 ⊢
  have z10 : ∀ m : Later W1, Calls Try.prog 68 #[.slice x.ents.a x.ents.l.length x.ents.c, .slice y.ents.a y.ents.l.length y.ents.c] m.at_ fun e w' => e = .returned (.bool (decide (x.ents.l.map EntM.x = y.ents.l.map EntM.x))) ∧ Nw m.at_ w' := fun m => by
    have f := Q0.tr m.nw
    exact same_ents _ F1 F2 _ _ _ _ _ _ (hx.ents.nw f).sl (hy.ents.nw f).sl (fun e he => (hx.each e he).nw f) (fun e he => (hy.each e he).nw f) hz.each (by have := hz.ents; omega)
  obtain ⟨d10, e10⟩ : ∃ d, (decide (x.ents.l.map EntM.x = y.ents.l.map EntM.x)) = d := ⟨_, rfl⟩
  simp only [e10] at z10 ⊢
  have z11 : ∀ m : Later W1, Calls Try.prog 69 #[.agg #[I64 x.base.index, I64 x.base.term, .slice x.base.cfg.v.a x.base.cfg.v.l.length x.base.cfg.v.c, .slice x.base.cfg.o.a x.base.cfg.o.l.length x.base.cfg.o.c, .slice x.base.cfg.l.a x.base.cfg.l.l.length x.base.cfg.l.c, .slice x.base.cfg.w.a x.base.cfg.w.l.length x.base.cfg.w.c], .agg #[I64 y.base.index, I64 y.base.term, .slice y.base.cfg.v.a y.base.cfg.v.l.length y.base.cfg.v.c, .slice y.base.cfg.o.a y.base.cfg.o.l.length y.base.cfg.o.c, .slice y.base.cfg.l.a y.base.cfg.l.l.length y.base.cfg.l.c, .slice y.base.cfg.w.a y.base.cfg.w.l.length y.base.cfg.w.c]] m.at_ fun e w' => e = .returned (.bool (decide (x.base.x = y.base.x))) ∧ Nw m.at_ w' := fun m => by
    have f := Q0.tr m.nw
    exact same_bas _ F1 F2 _ _ (hx.cfg.nw f) (hy.cfg.nw f) hz.cfg
  obtain ⟨d11, e11⟩ : ∃ d, (decide (x.base.x = y.base.x)) = d := ⟨_, rfl⟩
  simp only [e11] at z11 ⊢
  have z12 : (x.size == y.size) = (decide (x.size = y.size)) := rfl
  obtain ⟨d12, e12⟩ : ∃ d, (decide (x.size = y.size)) = d := ⟨_, rfl⟩
  simp only [e12] at z12 ⊢
  have z13 : (x.at_ == y.at_) = (decide (x.at_ = y.at_)) := rfl
  obtain ⟨d13, e13⟩ : ∃ d, (decide (x.at_ = y.at_)) = d := ⟨_, rfl⟩
  simp only [e13] at z13 ⊢
  have z14 : (x.tag == y.tag) = (decide (x.tag = y.tag)) := rfl
  obtain ⟨d14, e14⟩ : ∃ d, (decide (x.tag = y.tag)) = d := ⟨_, rfl⟩
  simp only [e14] at z14 ⊢
  have z15 : ∀ m : Later W1, Calls Try.prog 26 #[.slice x.bytes.a x.bytes.l.length x.bytes.c, .slice y.bytes.a y.bytes.l.length y.bytes.c] m.at_ fun e w' => e = .returned (.bool (decide (x.bytes.l = y.bytes.l))) ∧ Nw m.at_ w' := fun m => by
    have f := Q0.tr m.nw
    exact (same_u8 _ F1 F2 _ _ _ _ _ _ (hx.bytes.nw f).sl (hy.bytes.nw f).sl (by have := hz.bytes; omega)).mono fun e w' h => ⟨h.1, h.2.fr _⟩
  obtain ⟨d15, e15⟩ : ∃ d, (decide (x.bytes.l = y.bytes.l)) = d := ⟨_, rfl⟩
  simp only [e15] at z15 ⊢
  have hS : ∀ w1, Nw W1 w1 → w1.cell? ⟨w.heap.size, 0, none⟩ = some (U8V x.kind) ∧ w1.cell? ⟨w.heap.size, 1, none⟩ = some (I64 x.group) ∧ w1.cell? ⟨w.heap.size, 2, none⟩ = some (I64 x.src) ∧ w1.cell? ⟨w.heap.size, 3, none⟩ = some (I64 x.dst) ∧ w1.cell? ⟨w.heap.size, 4, none⟩ = some (I64 x.term) ∧ w1.cell? ⟨w.heap.size, 5, none⟩ = some (I64 x.index) ∧ w1.cell? ⟨w.heap.size, 6, none⟩ = some (I64 x.logt) ∧ w1.cell? ⟨w.heap.size, 7, none⟩ = some (I64 x.commit) ∧ w1.cell? ⟨w.heap.size, 8, none⟩ = some (.bool x.ok) ∧ w1.cell? ⟨w.heap.size, 9, none⟩ = some (.slice x.ents.a x.ents.l.length x.ents.c) ∧ w1.cell? ⟨w.heap.size, 10, none⟩ = some (I64 x.base.index) ∧ w1.cell? ⟨w.heap.size, 11, none⟩ = some (I64 x.base.term) ∧ w1.cell? ⟨w.heap.size, 12, none⟩ = some (.slice x.base.cfg.v.a x.base.cfg.v.l.length x.base.cfg.v.c) ∧ w1.cell? ⟨w.heap.size, 13, none⟩ = some (.slice x.base.cfg.o.a x.base.cfg.o.l.length x.base.cfg.o.c) ∧ w1.cell? ⟨w.heap.size, 14, none⟩ = some (.slice x.base.cfg.l.a x.base.cfg.l.l.length x.base.cfg.l.c) ∧ w1.cell? ⟨w.heap.size, 15, none⟩ = some (.slice x.base.cfg.w.a x.base.cfg.w.l.length x.base.cfg.w.c) ∧ w1.cell? ⟨w.heap.size, 16, none⟩ = some (I64 x.size) ∧ w1.cell? ⟨w.heap.size, 17, none⟩ = some (I64 x.at_) ∧ w1.cell? ⟨w.heap.size, 18, none⟩ = some (I64 x.tag) ∧ w1.cell? ⟨w.heap.size, 19, none⟩ = some (.slice x.bytes.a x.bytes.l.length x.bytes.c) ∧ w1.cell? ⟨(w.heap.size + 1), 0, none⟩ = some (U8V y.kind) ∧ w1.cell? ⟨(w.heap.size + 1), 1, none⟩ = some (I64 y.group) ∧ w1.cell? ⟨(w.heap.size + 1), 2, none⟩ = some (I64 y.src) ∧ w1.cell? ⟨(w.heap.size + 1), 3, none⟩ = some (I64 y.dst) ∧ w1.cell? ⟨(w.heap.size + 1), 4, none⟩ = some (I64 y.term) ∧ w1.cell? ⟨(w.heap.size + 1), 5, none⟩ = some (I64 y.index) ∧ w1.cell? ⟨(w.heap.size + 1), 6, none⟩ = some (I64 y.logt) ∧ w1.cell? ⟨(w.heap.size + 1), 7, none⟩ = some (I64 y.commit) ∧ w1.cell? ⟨(w.heap.size + 1), 8, none⟩ = some (.bool y.ok) ∧ w1.cell? ⟨(w.heap.size + 1), 9, none⟩ = some (.slice y.ents.a y.ents.l.length y.ents.c) ∧ w1.cell? ⟨(w.heap.size + 1), 10, none⟩ = some (I64 y.base.index) ∧ w1.cell? ⟨(w.heap.size + 1), 11, none⟩ = some (I64 y.base.term) ∧ w1.cell? ⟨(w.heap.size + 1), 12, none⟩ = some (.slice y.base.cfg.v.a y.base.cfg.v.l.length y.base.cfg.v.c) ∧ w1.cell? ⟨(w.heap.size + 1), 13, none⟩ = some (.slice y.base.cfg.o.a y.base.cfg.o.l.length y.base.cfg.o.c) ∧ w1.cell? ⟨(w.heap.size + 1), 14, none⟩ = some (.slice y.base.cfg.l.a y.base.cfg.l.l.length y.base.cfg.l.c) ∧ w1.cell? ⟨(w.heap.size + 1), 15, none⟩ = some (.slice y.base.cfg.w.a y.base.cfg.w.l.length y.base.cfg.w.c) ∧ w1.cell? ⟨(w.heap.size + 1), 16, none⟩ = some (I64 y.size) ∧ w1.cell? ⟨(w.heap.size + 1), 17, none⟩ = some (I64 y.at_) ∧ w1.cell? ⟨(w.heap.size + 1), 18, none⟩ = some (I64 y.tag) ∧ w1.cell? ⟨(w.heap.size + 1), 19, none⟩ = some (.slice y.bytes.a y.bytes.l.length y.bytes.c) := fun w1 f => by
    have a0 := b0.fr f (fun h => h)
    have a1 := b1.fr f (fun h => h)
    exact ⟨by simpa using a0.cell 0, by simpa using a0.cell 1, by simpa using a0.cell 2, by simpa using a0.cell 3, by simpa using a0.cell 4, by simpa using a0.cell 5, by simpa using a0.cell 6, by simpa using a0.cell 7, by simpa using a0.cell 8, by simpa using a0.cell 9, by simpa using a0.cell 10, by simpa using a0.cell 11, by simpa using a0.cell 12, by simpa using a0.cell 13, by simpa using a0.cell 14, by simpa using a0.cell 15, by simpa using a0.cell 16, by simpa using a0.cell 17, by simpa using a0.cell 18, by simpa using a0.cell 19, by simpa using a1.cell 0, by simpa using a1.cell 1, by simpa using a1.cell 2, by simpa using a1.cell 3, by simpa using a1.cell 4, by simpa using a1.cell 5, by simpa using a1.cell 6, by simpa using a1.cell 7, by simpa using a1.cell 8, by simpa using a1.cell 9, by simpa using a1.cell 10, by simpa using a1.cell 11, by simpa using a1.cell 12, by simpa using a1.cell 13, by simpa using a1.cell 14, by simpa using a1.cell 15, by simpa using a1.cell 16, by simpa using a1.cell 17, by simpa using a1.cell 18, by simpa using a1.cell 19⟩
  have HW0 := Lib.hid hW0
  have HW1 := Lib.hid hW1
  clear hW0 b0 hW1 b1 e1 e2 e3 e4 e5 e6 e7 e8 e9 e10 e11 e12 e13 e14 e15
  go_enter Try.func35, Try.ntmps35
  go_upto_region 1 with (fail)
  rw [← HW0.out, ← HW1.out]
  obtain ⟨k0_0_0, k0_0_1, k0_0_2, k0_0_3, k0_0_4, k0_0_5, k0_0_6, k0_0_7, k0_0_8, k0_0_9, _, _, _, _, _, _, _, _, _, _, k0_1_0, k0_1_1, k0_1_2, k0_1_3, k0_1_4, k0_1_5, k0_1_6, k0_1_7, k0_1_8, k0_1_9, _, _, _, _, _, _, _, _, _, _⟩ := hS W1 (Fr.refl _ _)
  have HS := Lib.hid hS
  clear hS
  go_wp2_with fail
  any_goals (go_ret; exact ⟨ret_eq (congrArg Value.bool (by simp [*])), Q0.tr (Fr.refl (fun _ => False) W1)⟩)
  refine (z10 ⟨_, (Fr.refl (fun _ => False) W1)⟩).mono ?_
  rintro e v1 ⟨rfl, r1⟩
  have Q1 : Nw W1 v1 := (Fr.refl (fun _ => False) W1).tr r1
  obtain ⟨_, _, _, _, _, _, _, _, _, _, k1_0_10, k1_0_11, k1_0_12, k1_0_13, k1_0_14, k1_0_15, _, _, _, _, _, _, _, _, _, _, _, _, _, _, k1_1_10, k1_1_11, k1_1_12, k1_1_13, k1_1_14, k1_1_15, _, _, _, _⟩ := HS.out v1 Q1
  go_wp2_with fail
  any_goals (go_ret; exact ⟨ret_eq (congrArg Value.bool (by simp [*])), Q0.tr Q1⟩)
  refine (z11 ⟨_, Q1⟩).mono ?_
  rintro e v2 ⟨rfl, r2⟩
  have Q2 : Nw W1 v2 := Q1.tr r2
  obtain ⟨_, _, _, _, _, _, _, _, _, _, _, _, _, _, _, _, k2_0_16, k2_0_17, k2_0_18, k2_0_19, _, _, _, _, _, _, _, _, _, _, _, _, _, _, _, _, k2_1_16, k2_1_17, k2_1_18, k2_1_19⟩ := HS.out v2 Q2
  go_wp2_with fail
  any_goals (go_ret; exact ⟨ret_eq (congrArg Value.bool (by simp [*])), Q0.tr Q2⟩)
  refine (z15 ⟨_, Q2⟩).mono ?_
  rintro e v3 ⟨rfl, r3⟩
  have Q3 : Nw W1 v3 := Q2.tr r3
  go_wp2_with fail
  all_goals (go_ret; exact ⟨ret_eq (congrArg Value.bool (by simp [*])), Q0.tr Q3⟩)
end Go.Proofs.Ytippdjaakcgeoaa

namespace Go.Proofs.Ytippdjaakcgeoaa
open Go Go.RowKit
set_option linter.unusedVariables false
set_option linter.unusedSimpArgs false
def same_letsR (w : World) (xs ys : List LetM) (i : Value) (wr : World) : Prop := ∃ k : Nat, i = .int .i64 k ∧ k ≤ xs.length ∧ (xs.take k).map LetM.x = (ys.take k).map LetM.x ∧ Nw w wr
set_option maxRecDepth 100000 in
set_option maxHeartbeats 4000000 in
theorem same_lets (w : World) (F1 F2 : Nat → Prop) (A1 A2 : Option Addr) (c1 c2 : Nat) (xs ys : List LetM) (h1 : Sl w F1 A1 (letsC xs)) (h2 : Sl w F2 A2 (letsC ys)) (e1 : ∀ e ∈ xs, LetIn w F1 e) (e2 : ∀ e ∈ ys, LetIn w F2 e) (hz : ∀ e ∈ xs, LetSz e) (hm1 : xs.length ≤ 1000000000000) :
    Calls Try.prog 19 #[.slice A1 xs.length c1, .slice A2 ys.length c2] w fun e w' => e = .returned (.bool (decide (xs.map LetM.x = ys.map LetM.x))) ∧ Nw w w' := by
  by_cases hl : xs.length = ys.length
  · have hlen : ((xs.length : Int) != (ys.length : Int)) = false := by simp [hl]
    have HL := Lib.hid hl
    have HZ := Lib.hid hz
    have E1 := Lib.hid e1
    have E2 := Lib.hid e2
    clear hl hz e1 e2
    go_enter Try.func19, Try.ntmps19
    go_wp2_with fail
    go_loopw [5] (fun i wr => same_letsR w xs ys i wr) (fun i _ => xs.length - (intOf i).toNat)
    case atStart => exact ⟨0, rfl, Nat.zero_le _, rfl, Fr.refl _ _⟩
    case round =>
      obtain ⟨k, rfl, hk, ht, hq⟩ := hrel
      have HT := Lib.hid ht
      clear ht
      by_cases hlt : k < xs.length
      · have hlt2 : k < ys.length := by have := HL.out; omega
        obtain ⟨b1, o1, rfl, _, _, hc1⟩ := (h1.fr hq (fun _ _ h => h)).let_ hlt
        obtain ⟨b2, o2, rfl, _, _, hc2⟩ := (h2.fr hq (fun _ _ h => h)).let_ hlt2
        have hi1 : (k : Int) < (xs.length : Int) := by omega
        have hi2 : (k : Int) < (ys.length : Int) := by omega
        have x1 := (E1.out _ (List.getElem_mem hlt)).nw hq
        have x2 := (E2.out _ (List.getElem_mem hlt2)).nw hq
        have z1 := HZ.out _ (List.getElem_mem hlt)
        obtain ⟨x, hx⟩ : ∃ x, xs[k] = x := ⟨_, rfl⟩
        obtain ⟨y, hy⟩ : ∃ y, ys[k] = y := ⟨_, rfl⟩
        rw [hx] at x1 z1 hc1
        rw [hy] at x2 hc2
        have hsm : ∀ m : Later wr, Calls Try.prog 35 #[.agg #[U8V x.kind, I64 x.group, I64 x.src, I64 x.dst, I64 x.term, I64 x.index, I64 x.logt, I64 x.commit, .bool x.ok, .slice x.ents.a x.ents.l.length x.ents.c, I64 x.base.index, I64 x.base.term, .slice x.base.cfg.v.a x.base.cfg.v.l.length x.base.cfg.v.c, .slice x.base.cfg.o.a x.base.cfg.o.l.length x.base.cfg.o.c, .slice x.base.cfg.l.a x.base.cfg.l.l.length x.base.cfg.l.c, .slice x.base.cfg.w.a x.base.cfg.w.l.length x.base.cfg.w.c, I64 x.size, I64 x.at_, I64 x.tag, .slice x.bytes.a x.bytes.l.length x.bytes.c], .agg #[U8V y.kind, I64 y.group, I64 y.src, I64 y.dst, I64 y.term, I64 y.index, I64 y.logt, I64 y.commit, .bool y.ok, .slice y.ents.a y.ents.l.length y.ents.c, I64 y.base.index, I64 y.base.term, .slice y.base.cfg.v.a y.base.cfg.v.l.length y.base.cfg.v.c, .slice y.base.cfg.o.a y.base.cfg.o.l.length y.base.cfg.o.c, .slice y.base.cfg.l.a y.base.cfg.l.l.length y.base.cfg.l.c, .slice y.base.cfg.w.a y.base.cfg.w.l.length y.base.cfg.w.c, I64 y.size, I64 y.at_, I64 y.tag, .slice y.bytes.a y.bytes.l.length y.bytes.c]] m.at_ fun e w' => e = .returned (.bool (decide (x.x = y.x))) ∧ Nw m.at_ w' := fun m => same_let _ F1 F2 x y (x1.nw m.nw) (x2.nw m.nw) z1
        obtain ⟨d, hd⟩ : ∃ d, decide (x.x = y.x) = d := ⟨_, rfl⟩
        simp only [hd] at hsm
        have HD := Lib.hid hd
        have HX := Lib.hid hx
        have HY := Lib.hid hy
        have HSM := Lib.hid hsm
        have hC1 := Later.cells hc1
        have hC2 := Later.cells hc2
        have L1 := Lib.hid hC1
        have L2 := Lib.hid hC2
        clear hc1 hc2 hC1 hC2 hd hx hy hsm x1 x2 z1
        go_wp2_with fail
        refine wp_region_later (by kernel_rfl) (by kernel_rfl) ?_
        repeat (first | (refine quiet_load_cells (by rfl) 40 _ rfl b1 (o1 + k * 20) rfl _ _ L1.out Try.underlying40 rfl (by kernel_rfl) ?_; simp only [Act.put, List.setIfInBounds_toArray, List.set_cons_succ, List.set_cons_zero]) | (refine quiet_load_cells (by rfl) 40 _ rfl b2 (o2 + k * 20) rfl _ _ L2.out Try.underlying40 rfl (by kernel_rfl) ?_; simp only [Act.put, List.setIfInBounds_toArray, List.set_cons_succ, List.set_cons_zero]) | go_big_quiet_step ((go_at_call 35; exact Later.call (HSM.out _))))
        refine wpQuiet_later fun w5 q5 => ?_
        cases d with
        | false =>
          go_wp2_with fail
          go_ret
          refine ⟨ret_eq (congrArg Value.bool (decide_eq_false fun h => ?_).symm), hq.tr q5⟩
          have h3 := congrArg (fun l => l[k]?) h
          simp only [List.getElem?_map, List.getElem?_eq_getElem hlt, List.getElem?_eq_getElem hlt2, Option.map_some] at h3
          injection h3 with h3
          rw [HX.out, HY.out] at h3
          exact of_decide_eq_false HD.out h3
        | true =>
          go_wp2_with fail
          go_roundw
          case rel =>
            refine ⟨k + 1, by go_num, by omega, ?_, hq.tr q5⟩
            rw [List.take_succ_eq_append_getElem hlt, List.take_succ_eq_append_getElem hlt2, List.map_append, List.map_append, HT.out, HX.out, HY.out]
            congr 1
            rw [List.map_singleton, List.map_singleton, of_decide_eq_true HD.out]
          case measure => simp [intOf]; omega
      · go_wp2_with fail
        go_ret
        have hx : xs.map LetM.x = ys.map LetM.x := by
          have := HT.out
          rwa [List.take_of_length_le (by omega), List.take_of_length_le (by have := HL.out; omega)] at this
        exact ⟨ret_eq (congrArg Value.bool (decide_eq_true hx).symm), hq⟩
  · have hlen : ((xs.length : Int) != (ys.length : Int)) = true := by simp; omega
    go_enter Try.func19, Try.ntmps19
    go_wp2_with fail
    go_ret
    exact ⟨ret_eq (congrArg Value.bool (decide_eq_false fun h => hl (by have := congrArg List.length h; simpa using this)).symm), Fr.refl _ _⟩
end Go.Proofs.Ytippdjaakcgeoaa

namespace Go.Proofs.Ytippdjaakcgeoaa
open Go Go.RowKit

/-- Values put into an array, one behind the other. -/
theorem fold_set (v : List Value) : ∀ (j off : Nat) (cs : Array Value) (i : Nat), ((v.zipIdx j).foldl (fun (cs : Array Value) (p : Value × Nat) => cs.setIfInBounds (off + p.2) p.1) cs)[i]? =
    if off + j ≤ i ∧ i < off + j + v.length ∧ i < cs.size then v[i - (off + j)]? else cs[i]? := by
  induction v with
  | nil =>
    intro j off cs i
    rw [if_neg (by simp; omega)]
    rfl
  | cons c v ih =>
    intro j off cs i
    rw [List.zipIdx_cons, List.foldl_cons, ih (j + 1) off]
    simp only [List.length_cons, Array.size_setIfInBounds]
    rcases Nat.lt_trichotomy i (off + j) with h | h | h
    · rw [if_neg (by omega), if_neg (by omega), Array.getElem?_setIfInBounds_ne (by omega)]
    · subst h
      by_cases hs : off + j < cs.size
      · rw [if_neg (by omega), if_pos (by omega), Array.getElem?_setIfInBounds_self_of_lt hs, Nat.sub_self]
        rfl
      · rw [if_neg (by omega), if_neg (by omega), Array.getElem?_eq_none (by simp; omega), Array.getElem?_eq_none (by omega)]
    · by_cases hs : off + (j + 1) ≤ i ∧ i < off + (j + 1) + v.length ∧ i < cs.size
      · rw [if_pos hs, if_pos (by omega), show i - (off + j) = (i - (off + (j + 1))) + 1 by omega]
        rfl
      · rw [if_neg hs, if_neg (by omega), Array.getElem?_setIfInBounds_ne (by omega)]
theorem fill_rows (C : Nat) : ∀ (vs : List (List Value)) (k : Nat) (cs : Array Value), (∀ v ∈ vs, v.length = C) → cs.size = (k + vs.length) * C →
    Instr.fill (fun i => some (i * C, C)) cs ((vs.zipIdx k).map fun p => (p.2, Value.agg p.1.toArray)) = some (cs.toList.take (k * C) ++ vs.flatten).toArray := by
  intro vs
  induction vs with
  | nil =>
    intro k cs _ hs
    show some cs = _
    simp at hs
    rw [List.take_of_length_le (by simp [hs])]
    simp
  | cons v vs ih =>
    intro k cs hv hs
    have hvl := hv v (by simp)
    simp only [List.length_cons] at hs
    rw [List.zipIdx_cons, List.map_cons]
    unfold Instr.fill
    simp only
    have e1 : (Value.agg v.toArray).cells = v.toArray := rfl
    have hb : k * C + C ≤ cs.size := by
      rw [hs, ← Nat.succ_mul]
      exact Nat.mul_le_mul_right _ (by omega)
    rw [e1, if_neg (by simp [hvl]; omega)]
    have e2 : v.toArray.zipIdx.foldl (fun cs x => cs.setIfInBounds (k * C + x.2) x.1) cs = (v.zipIdx 0).foldl (fun (cs : Array Value) (p : Value × Nat) => cs.setIfInBounds (k * C + p.2) p.1) cs := by simp
    have e3 : ((v.zipIdx 0).foldl (fun (cs : Array Value) (p : Value × Nat) => cs.setIfInBounds (k * C + p.2) p.1) cs).size = cs.size := by
      have hg : ∀ (l : List (Value × Nat)) (c : Array Value), (l.foldl (fun (cs : Array Value) (p : Value × Nat) => cs.setIfInBounds (k * C + p.2) p.1) c).size = c.size := fun l => by
        induction l with
        | nil => intro c; rfl
        | cons x l ih => intro c; rw [List.foldl_cons, ih]; simp
      exact hg _ _
    have e4 := ih (k + 1) ((v.zipIdx 0).foldl (fun (cs : Array Value) (p : Value × Nat) => cs.setIfInBounds (k * C + p.2) p.1) cs) (fun x hx => hv x (by simp [hx])) (by rw [e3, hs]; congr 1; omega)
    refine Eq.trans ?_ (e4.trans ?_)
    · rw [← e2]
    · congr 2
      rw [List.flatten_cons, ← List.append_assoc]
      congr 1
      refine List.ext_getElem? fun i => ?_
      rw [List.getElem?_take, List.getElem?_append, List.getElem?_take]
      have e5 : ((v.zipIdx 0).foldl (fun (cs : Array Value) (p : Value × Nat) => cs.setIfInBounds (k * C + p.2) p.1) cs).toList[i]? = if k * C + 0 ≤ i ∧ i < k * C + 0 + v.length ∧ i < cs.size then v[i - (k * C + 0)]? else cs[i]? := by
        rw [Array.getElem?_toList]
        exact fold_set v 0 (k * C) cs i
      rw [e5, hvl]
      have hlt : (List.take (k * C) cs.toList).length = k * C := by simp; omega
      rw [hlt, Nat.succ_mul]
      simp only [Nat.add_zero, Array.getElem?_toList]
      by_cases h1 : i < k * C
      · rw [if_pos (by omega), if_neg (by omega), if_pos h1, if_pos h1]
      · by_cases h2 : i < k * C + C
        · rw [if_pos h2, if_pos (by omega), if_neg h1]
        · rw [if_neg h2, if_neg h1, List.getElem?_eq_none (by omega)]
theorem run_build {P : Program} (w : World) (t E : TypeId) (C : Nat) (vs : List (List Value)) (z : Value) (ht : P.underlying t = some (.slice E)) (hinfo : (P.info? E).map (fun i => (i.zero, i.size)) = some (some z, C))
    (hn0 : 0 < vs.length) (hC : 0 < C) (hl : ∀ v ∈ vs, v.length = C) (hsz : vs.length * C ≤ 16777216) :
    (Instr.buildSlice t vs.length ((vs.zipIdx 0).map fun p => (p.2, Value.agg p.1.toArray)).toArray).run P w = .ok (.slice (some ⟨w.heap.size, 0, none⟩) vs.length vs.length) (w.alloc (.cells vs.flatten.toArray E)) := by
  have hne : ¬ vs.length * C = 0 := Nat.ne_of_gt (Nat.mul_pos hn0 hC)
  have hle : ¬ vs.length * C > 2 ^ 24 := by show ¬ vs.length * C > 16777216; omega
  cases hi : P.info? E with
  | none => rw [hi] at hinfo; cases hinfo
  | some i =>
    rw [hi] at hinfo
    simp only [Option.map_some, Option.some.injEq, Prod.mk.injEq] at hinfo
    obtain ⟨hz, hs⟩ := hinfo
    have hf := fill_rows C vs 0 ((Array.range (vs.length * C)).map fun k => z.cells[k % z.cells.size]!) hl (by simp)
    rw [Nat.zero_mul, List.take_zero, List.nil_append] at hf
    simp [Instr.buildSlice, run_underlying ht, sizeOf, typeInfo, hi, hs, hle, hne, zeroValue, hz, hf, newRow]
section
variable {P : Program} {w : World} {ops : Array Oper} {rest : List Oper} {o : Oper} {a : Act} {Q : Exit → Act → World → Prop}
/-- The walk over a slice written out. -/
theorem wl_build (hgd : o.guard = none) {E : TypeId} (t : TypeId) (n : Nat) (ps : List (Nat × Operand)) (C : Nat) (vs : List (List Value)) (z : Value) (ho : o.op = .buildSlice t n ps.toArray) (ht : P.underlying t = some (.slice E)) (hinfo : (P.info? E).map (fun i => (i.zero, i.size)) = some (some z, C))
    (hn : vs.length = n) (hn0 : 0 < n) (hC : 0 < C) (hl : ∀ v ∈ vs, v.length = C) (hsz : n * C ≤ 16777216)
    (hp : (ps.map fun (i, x) => (i, a.eval x)) = (vs.zipIdx 0).map fun p => (p.2, Value.agg p.1.toArray))
    (h : ∀ g w', g = w.heap.size → w' = w.alloc (.cells vs.flatten.toArray E) → wpList P ops Q rest (a.put o.dst (.slice (some ⟨g, 0, none⟩) n n)) w') : wpList P ops Q (o :: rest) a w := by
  refine wpList_plain hgd fun K hK => ?_
  subst hn
  unfold Oper.wp execOp
  simp only [ho, List.map_toArray, hp]
  rw [Sem.run_bind, run_build w t E C vs z ht hinfo hn0 hC hl hsz]
  exact hK _ _ (h _ _ rfl rfl)
end
end Go.Proofs.Ytippdjaakcgeoaa

namespace Go.Proofs.Ytippdjaakcgeoaa
open Go Go.RowKit
set_option linter.unusedVariables false
set_option linter.unusedSimpArgs false
/-- A letter from 1 to 2. -/
def toM (k : Int) : LetM := ⟨2, 0, 1, 2, 1, 0, 0, 0, false, lsZ, basMZ, 0, 0, k, lsZ⟩
theorem LetIn.to_ (w : World) (F : Nat → Prop) (k : Int) : LetIn w F (toM k) := ⟨⟨by show (0 : Int) ≤ 2; omega, by show (2 : Int) ≤ 255; omega⟩, LsIn.nil w F entsC rfl, (by intro e he; cases he), CfgIn.zero w F, LsIn.nil w F bytesC rfl⟩
theorem LetSz.to_ (k : Int) : LetSz (toM k) := ⟨by show 0 ≤ 1000000; omega, (by intro e he; cases he), CfgSz.zero, by show 0 ≤ 1000000; omega⟩
set_option maxRecDepth 100000 in
set_option maxHeartbeats 4000000 in
theorem to_any (w : World) (k : Int) : Calls Try.prog 30 #[I64 k] w fun e w' => e = .returned (.agg (letA (toM k))) ∧ Nw w w' := by
  obtain ⟨Y, hY⟩ : ∃ Y, Y = w.heap.size := ⟨_, rfl⟩
  obtain ⟨W0, hW0⟩ : ∃ W, W = w.alloc (.cells #[U8V 0, I64 0, I64 0, I64 0, I64 0, I64 0, I64 0, I64 0, .bool false, .slice none 0 0, I64 0, I64 0, .slice none 0 0, .slice none 0 0, .slice none 0 0, .slice none 0 0, I64 0, I64 0, I64 0, .slice none 0 0] 40) := ⟨_, rfl⟩
  have p0 : Nw w W0 := by rw [hW0]; exact (Fr.refl (fun _ => False) _).alloc _
  have y0 : Blk W0 Y 40 #[U8V 0, I64 0, I64 0, I64 0, I64 0, I64 0, I64 0, I64 0, .bool false, .slice none 0 0, I64 0, I64 0, .slice none 0 0, .slice none 0 0, .slice none 0 0, .slice none 0 0, I64 0, I64 0, I64 0, .slice none 0 0] := by rw [hW0, hY]; exact Blk.new _ _ _
  have th := Blk.there (l := [U8V 0, I64 0, I64 0, I64 0, I64 0, I64 0, I64 0, I64 0, .bool false, .slice none 0 0, I64 0, I64 0, .slice none 0 0, .slice none 0 0, .slice none 0 0, .slice none 0 0, I64 0, I64 0, I64 0, .slice none 0 0]) y0 0 20 (by show 0 + 20 ≤ 20; omega)
  have one := letA_one (toM k)
  obtain ⟨W1, hW1⟩ : ∃ W, W = W0.setCells Y 0 [U8V 2, I64 0, I64 1, I64 2, I64 1, I64 0, I64 0, I64 0, .bool false, .slice none 0 0, I64 0, I64 0, .slice none 0 0, .slice none 0 0, .slice none 0 0, .slice none 0 0, I64 0, I64 0, I64 k, .slice none 0 0] := ⟨_, rfl⟩
  have y1 : Blk W1 Y 40 #[U8V 2, I64 0, I64 1, I64 2, I64 1, I64 0, I64 0, I64 0, .bool false, .slice none 0 0, I64 0, I64 0, .slice none 0 0, .slice none 0 0, .slice none 0 0, .slice none 0 0, I64 0, I64 0, I64 k, .slice none 0 0] := by rw [hW1]; exact Blk.setCells (l := [U8V 0, I64 0, I64 0, I64 0, I64 0, I64 0, I64 0, I64 0, .bool false, .slice none 0 0, I64 0, I64 0, .slice none 0 0, .slice none 0 0, .slice none 0 0, .slice none 0 0, I64 0, I64 0, I64 0, .slice none 0 0]) y0 0 [U8V 2, I64 0, I64 1, I64 2, I64 1, I64 0, I64 0, I64 0, .bool false, .slice none 0 0, I64 0, I64 0, .slice none 0 0, .slice none 0 0, .slice none 0 0, .slice none 0 0, I64 0, I64 0, I64 k, .slice none 0 0]
  have m1 : Fr (· = Y) W0 W1 := by rw [hW1]; exact (Fr.refl (· = Y) _).setCells _ _
  have Q1 : Nw w W1 := p0.new m1 (fun b hb => by omega)
  have HY := Lib.hid hY
  have HW0 := Lib.hid hW0
  have HW1 := Lib.hid hW1
  clear hY hW0 hW1 p0 y0 m1
  go_enter Try.func30, Try.ntmps30
  go_upto_region 1 with (fail)
  rw [← HY.out, ← HW0.out]
  go_wp2_with (refine wpList_store_mid rfl 40 _ _ rfl Y 0 #[U8V 2, I64 0, I64 1, I64 2, I64 1, I64 0, I64 0, I64 0, .bool false, .slice none 0 0, I64 0, I64 0, .slice none 0 0, .slice none 0 0, .slice none 0 0, .slice none 0 0, I64 0, I64 0, I64 k, .slice none 0 0] rfl rfl th (by kernel_rfl) one ?_; rw [← HW1.out])
  refine bodyPost_ret (v := .agg #[U8V 2, I64 0, I64 1, I64 2, I64 1, I64 0, I64 0, I64 0, .bool false, .slice none 0 0, I64 0, I64 0, .slice none 0 0, .slice none 0 0, .slice none 0 0, .slice none 0 0, I64 0, I64 0, I64 k, .slice none 0 0]) ?_ rfl ?_
  · exact results_cell_row rfl _ _ Y 40 _ (0, 0) _ rfl y1 Try.underlying40 rfl (by kernel_rfl)
  exact ⟨rfl, Q1⟩
/-! Few deeds. -/
def deedT (ds : List DeedN) : Nat := (ds.map fun d => d.l.l.length).sum
theorem deedT_take (ds : List DeedN) (k : Nat) (h : k < ds.length) : deedT (ds.take (k + 1)) = deedT (ds.take k) + ds[k].l.l.length := by
  unfold deedT
  rw [List.take_succ_eq_append_getElem h, List.map_append, List.sum_append]
  simp
theorem letT_pos (most : Nat) (x : LetM) : 1 ≤ letT most x := by unfold letT; omega
def Few (ds : List DeedN) : Prop := ds.length + deedT ds ≤ 400 ∧ ∀ d ∈ ds, ∀ x ∈ d.l.l, LetS 400 x
def ltI (w : World) (ds : List DeedN) (n i : Value) (wr : World) : Prop :=
  ∃ k t : Nat, k ≤ ds.length ∧ i = .int .i64 k ∧ n = .int .i64 t ∧ t ≤ 100000000000000000 ∧ (t ≤ 400 → ds.length + deedT (ds.take k) ≤ t ∧ ∀ j (h : j < ds.length), j < k → ∀ x ∈ ds[j].l.l, LetS 400 x) ∧ Nw w wr
def ltJ (w : World) (m : Nat) (l : List LetM) (n i : Value) (wr : World) : Prop :=
  ∃ k t : Nat, k ≤ l.length ∧ i = .int .i64 k ∧ n = .int .i64 t ∧ t ≤ 100000000000000000 ∧ (t ≤ 400 → m + k ≤ t ∧ ∀ j (h : j < l.length), j < k → LetS 400 l[j]) ∧ Nw w wr
set_option maxRecDepth 100000 in
set_option maxHeartbeats 8000000 in
theorem light_any (w : World) (F : Nat → Prop) (A : Option Addr) (c : Nat) (ds : List DeedN) (h : Sl w F A (deedsN ds)) (he : ∀ d ∈ ds, DeedNIn w F d) (hl : ds.length ≤ 1125899906842624) :
    Calls Try.prog 7 #[.slice A ds.length c] w fun e w' => ∃ b, e = .returned (.bool b) ∧ (b = true → Few ds) ∧ Nw w w' := by
  have HE := Lib.hid he
  clear he
  go_enter Try.func7, Try.ntmps7
  go_wp2_with fail
  go_loopw [3, 4] (fun n i wr => ltI w ds n i wr) (fun _ i _ => ds.length - (intOf i).toNat)
  case atStart => exact ⟨0, ds.length, Nat.zero_le _, rfl, rfl, by omega, fun _ => ⟨by simp [deedT], fun j _ hj => absurd hj (Nat.not_lt_zero _)⟩, Fr.refl _ _⟩
  case round =>
    obtain ⟨k, t, hk, rfl, rfl, htm, hall, hq⟩ := hrel
    obtain ⟨wo, hwo⟩ : ∃ wo, wo = wr := ⟨_, rfl⟩
    rw [← hwo] at hq ⊢
    have HALL := Lib.hid hall
    clear hall hwo
    by_cases hlt : k < ds.length
    · have hi0 : (k : Int) < (ds.length : Int) := by omega
      have hi1 : decide ((k : Int) < (ds.length : Int)) = true := decide_eq_true hi0
      by_cases hle : t ≤ 400
      · have hm1 : decide ((t : Int) ≤ 400) = true := decide_eq_true (by omega)
        obtain ⟨b, of, rfl, _, hbl, hc⟩ := (h.fr hq (fun _ _ h => h)).deedN hlt
        have hin := (HE.out _ (List.getElem_mem hlt)).nw hq
        obtain ⟨d, hd⟩ : ∃ d, ds[k] = d := ⟨_, rfl⟩
        rw [hd] at hc hin
        obtain ⟨S, hS⟩ : ∃ S, S = deedT (ds.take k) := ⟨_, rfl⟩
        have hall := (HALL.out hle).1
        rw [← hS] at hall
        have HS := Lib.hid hS
        have HD := Lib.hid hd
        clear hd hS
        have dl := hin.lets
        have dz := hin.bd
        have dlen := hin.len
        obtain ⟨⟨la, lc, l⟩, hls⟩ : ∃ s, s = d.l := ⟨_, rfl⟩
        have c3 : wo.cell? ⟨b, of + k * 4 + 3, none⟩ = some (.slice la l.length lc) := by
          have := hc 3 d.l.v rfl
          rw [← hls] at this
          exact this
        rw [← hls] at dl dz dlen
        have dsl := dl.ls.sl
        have din := dl.each
        dsimp only at dsl din dz dlen
        have HLS := Lib.hid hls
        clear hls hc hin dl
        go_wp2_with fail
        go_loopw [3, 5] (fun n i wq => ltJ wo (ds.length + S) l n i wq) (fun _ i _ => l.length - (intOf i).toNat)
        case atStart => exact ⟨0, t, Nat.zero_le _, rfl, rfl, htm, fun _ => ⟨hall, fun j _ hj => absurd hj (Nat.not_lt_zero _)⟩, Fr.refl _ _⟩
        case round =>
          obtain ⟨k2, t2, hk2, rfl, rfl, htm2, hall2, hq2⟩ := hrel
          have HALL2 := Lib.hid hall2
          clear hall2
          have c4 : wr.cell? ⟨b, of + k * 4 + 3, none⟩ = some (.slice la l.length lc) := (hq2.cell (p := ⟨b, of + k * 4 + 3, none⟩) hbl (fun h => h)).trans c3
          by_cases hlt2 : k2 < l.length
          · have hj0 : (k2 : Int) < (l.length : Int) := by omega
            have hj1 : decide ((k2 : Int) < (l.length : Int)) = true := decide_eq_true hj0
            by_cases hle2 : t2 ≤ 400
            · have hn1 : decide ((t2 : Int) ≤ 400) = true := decide_eq_true (by omega)
              obtain ⟨b2, o2, rfl, _, _, hc2⟩ := (dsl.fr hq2 (fun _ _ h => h)).let_ hlt2
              have xi := (din _ (List.getElem_mem hlt2)).nw hq2
              have xz := dz _ (List.getElem_mem hlt2)
              obtain ⟨x, hx⟩ : ∃ x, l[k2] = x := ⟨_, rfl⟩
              rw [hx] at hc2 xi xz
              have HX := Lib.hid hx
              have hlo := letof_any wr F x 400 xi xz (by omega)
              obtain ⟨q, hqq⟩ : ∃ q, q = letT 400 x := ⟨_, rfl⟩
              have hq1 := letT_pos 400 x
              rw [← hqq] at hlo hq1
              clear hx hqq
              go_wp2_with (first | (refine wl_load_cells rfl 40 _ rfl b2 (o2 + k2 * 20) rfl _ _ hc2 Try.underlying40 rfl (by kernel_rfl) ?_) | (go_at_call 32; refine hlo.mono ?_; rintro e w3 ⟨rfl, ⟨hb3, hs3⟩, q3⟩))
              go_roundw
              case rel =>
                refine ⟨k2 + 1, t2 + q, hlt2, by go_num, by go_num, by omega, fun h9 => ⟨by have := (HALL2.out hle2).1; omega, fun j hj hjk => ?_⟩, hq2.tr q3⟩
                by_cases hjk2 : j < k2
                · exact (HALL2.out hle2).2 j hj hjk2
                · obtain rfl : j = k2 := by omega
                  rw [HX.out]
                  exact (hs3 (by omega)).mono (by omega)
              case measure => simp [intOf]; omega
            · have hn1 : decide ((t2 : Int) ≤ 400) = false := decide_eq_false (by omega)
              go_wp2_with fail
              go_roundw
              case rel => exact ⟨k + 1, t2, hlt, by go_num, rfl, htm2, fun h9 => absurd h9 hle2, hq.tr hq2⟩
              case measure => simp [intOf]; omega
          · have hj1 : decide ((k2 : Int) < (l.length : Int)) = false := decide_eq_false (by omega)
            go_wp2_with fail
            go_roundw
            case rel =>
              refine ⟨k + 1, t2, hlt, by go_num, rfl, htm2, fun h9 => ?_, hq.tr hq2⟩
              obtain ⟨h5, h6⟩ := HALL2.out h9
              have hdl : ds[k].l.l = l := by rw [HD.out, ← HLS.out]
              refine ⟨by rw [deedT_take ds k hlt, ← HS.out, hdl]; omega, fun j hj hjk x hx => ?_⟩
              by_cases hjk2 : j < k
              · exact (HALL.out hle).2 j hj hjk2 x hx
              · obtain rfl : j = k := by omega
                rw [hdl] at hx
                obtain ⟨j2, hj2, rfl⟩ := List.mem_iff_getElem.1 hx
                exact h6 j2 hj2 (by omega)
            case measure => simp [intOf]; omega
      · have hm1 : decide ((t : Int) ≤ 400) = false := decide_eq_false (by omega)
        go_wp2_with fail
        go_ret
        exact ⟨false, rfl, fun h9 => (by cases h9), hq⟩
    · have hi1 : decide ((k : Int) < (ds.length : Int)) = false := decide_eq_false (by omega)
      go_wp2_with fail
      go_ret
      refine ⟨decide ((t : Int) ≤ 400), rfl, fun h9 => ?_, hq⟩
      have h8 : t ≤ 400 := by have := of_decide_eq_true h9; omega
      obtain ⟨h5, h6⟩ := HALL.out h8
      rw [List.take_of_length_le (by omega)] at h5
      exact ⟨by omega, fun d hd x hx => by
        obtain ⟨j, hj, rfl⟩ := List.mem_iff_getElem.1 hd
        exact h6 j hj (by omega) x hx⟩
end Go.Proofs.Ytippdjaakcgeoaa
