/- The statements' kit: copies of a letter, rows of letters. (Printed by gencpb.py.) -/
import Derived.Test.YtippdjaakcgeoaaCpB
namespace Go.Proofs.Ytippdjaakcgeoaa
open Go Go.RowKit
set_option linter.unusedVariables false
set_option linter.unusedSimpArgs false
set_option maxRecDepth 100000 in
set_option maxHeartbeats 4000000 in
theorem copy_let (w : World) (F : Nat → Prop) (x : LetM) (hx : LetIn w F x) (hz : LetSz x) :
    Calls Try.prog 17 #[.agg (letA x)] w fun e w' => ∃ y : LetM, e = .returned (.agg (letA y)) ∧ y.x = x.x ∧ LetIn w' (Since w) y ∧ Nw w w' := by
  obtain ⟨X, hX⟩ : ∃ X, X = w.heap.size := ⟨_, rfl⟩
  obtain ⟨Y, hY⟩ : ∃ Y, Y = w.heap.size + 1 := ⟨_, rfl⟩
  obtain ⟨W0, hW0⟩ : ∃ W, W = w.alloc (.cells #[U8V x.kind, I64 x.group, I64 x.src, I64 x.dst, I64 x.term, I64 x.index, I64 x.logt, I64 x.commit, .bool x.ok, .slice x.ents.a x.ents.l.length x.ents.c, I64 x.base.index, I64 x.base.term, .slice x.base.cfg.v.a x.base.cfg.v.l.length x.base.cfg.v.c, .slice x.base.cfg.o.a x.base.cfg.o.l.length x.base.cfg.o.c, .slice x.base.cfg.l.a x.base.cfg.l.l.length x.base.cfg.l.c, .slice x.base.cfg.w.a x.base.cfg.w.l.length x.base.cfg.w.c, I64 x.size, I64 x.at_, I64 x.tag, .slice x.bytes.a x.bytes.l.length x.bytes.c] 40) := ⟨_, rfl⟩
  have p0 : Nw w W0 := by rw [hW0]; exact (Fr.refl (fun _ => False) _).alloc _
  have x0 : Blk W0 X 40 #[U8V x.kind, I64 x.group, I64 x.src, I64 x.dst, I64 x.term, I64 x.index, I64 x.logt, I64 x.commit, .bool x.ok, .slice x.ents.a x.ents.l.length x.ents.c, I64 x.base.index, I64 x.base.term, .slice x.base.cfg.v.a x.base.cfg.v.l.length x.base.cfg.v.c, .slice x.base.cfg.o.a x.base.cfg.o.l.length x.base.cfg.o.c, .slice x.base.cfg.l.a x.base.cfg.l.l.length x.base.cfg.l.c, .slice x.base.cfg.w.a x.base.cfg.w.l.length x.base.cfg.w.c, I64 x.size, I64 x.at_, I64 x.tag, .slice x.bytes.a x.bytes.l.length x.bytes.c] := by rw [hW0, hX]; exact Blk.new _ _ _
  have hz0 : W0.heap.size = Y := by rw [hW0, hY]; simp
  obtain ⟨W1, hW1⟩ : ∃ W, W = W0.alloc (.cells #[U8V 0, I64 0, I64 0, I64 0, I64 0, I64 0, I64 0, I64 0, .bool false, .slice none 0 0, I64 0, I64 0, .slice none 0 0, .slice none 0 0, .slice none 0 0, .slice none 0 0, I64 0, I64 0, I64 0, .slice none 0 0] 40) := ⟨_, rfl⟩
  have p1 : Nw W0 W1 := by rw [hW1]; exact (Fr.refl (fun _ => False) _).alloc _
  have y1 : Blk W1 Y 40 #[U8V 0, I64 0, I64 0, I64 0, I64 0, I64 0, I64 0, I64 0, .bool false, .slice none 0 0, I64 0, I64 0, .slice none 0 0, .slice none 0 0, .slice none 0 0, .slice none 0 0, I64 0, I64 0, I64 0, .slice none 0 0] := by rw [hW1, ← hz0]; exact Blk.new _ _ _
  have x1 := x0.fr p1 (fun h => h)
  have Q1 : Nw w W1 := p0.tr p1
  have hXw : w.heap.size ≤ X := by omega
  have hYw : w.heap.size ≤ Y := by omega
  have hXY : X ≠ Y := by omega
  have hXS : ∀ b, Since W1 b → ¬ b = X := fun b hb he => by have := x1.lt; unfold Since at hb; omega
  have hYS : ∀ b, Since W1 b → ¬ b = Y := fun b hb he => by have := y1.lt; unfold Since at hb; omega
  have hS1 : W1.heap.size ≤ W1.heap.size := Nat.le_refl _
  have hSw := Q1.size
  have HX := Lib.hid hX
  have HY := Lib.hid hY
  have HW0 := Lib.hid hW0
  have HW1 := Lib.hid hW1
  have HZ0 := Lib.hid hz0
  clear hX hY hW0 hW1 hz0 x0
  go_enter Try.func17, Try.ntmps17
  go_upto_region 1 with (fail)
  rw [← HY.out, ← HX.out, ← HW0.out, ← HW1.out]
  have l2 : W1.cell? ⟨X, 9, none⟩ = some (.slice x.ents.a x.ents.l.length x.ents.c) := by simpa using x1.cell 9
  go_wp2_with fail
  refine (copy_ents _ F _ _ _ ((hx.ents.nw Q1).sl) (fun e he => (hx.each e he).nw Q1) hz.each (by have := hz.ents; omega)).mono ?_
  rintro e v2 ⟨A1, c1, ys, rfl, e1, w1, i1, q2, b1⟩
  have Qv2 : Nw w v2 := Q1.tr q2
  have xv2 := x1.fr q2 (fun h => h)
  have yv2 := y1.fr q2 (fun h => h)
  have f2 := xv2.frozen 9
  have g2 : v2.cell? ⟨X, 9, none⟩ = some (.slice x.ents.a x.ents.l.length x.ents.c) := by simpa using xv2.cell 9
  obtain ⟨W2, hW2⟩ : ∃ W, W = v2.setCell ⟨X, 9, none⟩ (.slice A1 x.ents.l.length c1) := ⟨_, rfl⟩
  have x2 : Blk W2 X 40 #[U8V x.kind, I64 x.group, I64 x.src, I64 x.dst, I64 x.term, I64 x.index, I64 x.logt, I64 x.commit, .bool x.ok, .slice A1 x.ents.l.length c1, I64 x.base.index, I64 x.base.term, .slice x.base.cfg.v.a x.base.cfg.v.l.length x.base.cfg.v.c, .slice x.base.cfg.o.a x.base.cfg.o.l.length x.base.cfg.o.c, .slice x.base.cfg.l.a x.base.cfg.l.l.length x.base.cfg.l.c, .slice x.base.cfg.w.a x.base.cfg.w.l.length x.base.cfg.w.c, I64 x.size, I64 x.at_, I64 x.tag, .slice x.bytes.a x.bytes.l.length x.bytes.c] := by rw [hW2]; exact xv2.set_ 9 _
  have m2 : Fr (· = X) v2 W2 := by rw [hW2]; exact (Fr.refl (· = X) _).set1 _ _
  have y2 := yv2.fr m2 (fun h => hXY h.symm)
  have Q2 : Nw w W2 := Qv2.new m2 (fun b hb => by omega)
  have n1 := ((⟨w1.ls (w0 := W1) (by have := congrArg List.length e1; simpa using this) (fun k hk => Nat.le_trans hS1 (b1 k hk)), fun y hy => (i1 y hy).mono (F' := Since W1) (fun k hk _ => Nat.le_trans hS1 hk)⟩ : EntsIn v2 (Since W1) ⟨A1, c1, ys⟩)).fr m2 hXS
  have hS2 : W1.heap.size ≤ W2.heap.size := Nat.le_trans (Nat.le_trans hS1 q2.size) m2.size
  have HW2 := Lib.hid hW2
  clear hW2 l2
  go_upto_region 2 with (fail)
  rw [← HW2.out]
  clear f2 g2
  have l3 : ∀ p u, ([I64 x.base.index, I64 x.base.term, .slice x.base.cfg.v.a x.base.cfg.v.l.length x.base.cfg.v.c, .slice x.base.cfg.o.a x.base.cfg.o.l.length x.base.cfg.o.c, .slice x.base.cfg.l.a x.base.cfg.l.l.length x.base.cfg.l.c, .slice x.base.cfg.w.a x.base.cfg.w.l.length x.base.cfg.w.c] : List Value)[p]? = some u → W2.cell? ⟨X, 10 + p, none⟩ = some u := Blk.cells_in x2 10 6
  go_wp2_with (refine wl_load_cells rfl 37 _ rfl X 10 rfl [I64 x.base.index, I64 x.base.term, .slice x.base.cfg.v.a x.base.cfg.v.l.length x.base.cfg.v.c, .slice x.base.cfg.o.a x.base.cfg.o.l.length x.base.cfg.o.c, .slice x.base.cfg.l.a x.base.cfg.l.l.length x.base.cfg.l.c, .slice x.base.cfg.w.a x.base.cfg.w.l.length x.base.cfg.w.c] _ l3 Try.underlying37 rfl (by kernel_rfl) ?_)
  refine (copy_bas _ F x.base (hx.cfg.nw Q2) hz.cfg).mono ?_
  rintro e v3 ⟨g2, rfl, e2, w2, q3⟩
  have Qv3 : Nw w v3 := Q2.tr q3
  have xv3 := x2.fr q3 (fun h => h)
  have yv3 := y2.fr q3 (fun h => h)
  have h3 := Blk.there (l := [U8V x.kind, I64 x.group, I64 x.src, I64 x.dst, I64 x.term, I64 x.index, I64 x.logt, I64 x.commit, .bool x.ok, .slice A1 x.ents.l.length c1, I64 x.base.index, I64 x.base.term, .slice x.base.cfg.v.a x.base.cfg.v.l.length x.base.cfg.v.c, .slice x.base.cfg.o.a x.base.cfg.o.l.length x.base.cfg.o.c, .slice x.base.cfg.l.a x.base.cfg.l.l.length x.base.cfg.l.c, .slice x.base.cfg.w.a x.base.cfg.w.l.length x.base.cfg.w.c, I64 x.size, I64 x.at_, I64 x.tag, .slice x.bytes.a x.bytes.l.length x.bytes.c]) xv3 10 6 (by show 10 + 6 ≤ 20; omega)
  obtain ⟨W3, hW3⟩ : ∃ W, W = v3.setCells X 10 [I64 g2.index, I64 g2.term, .slice g2.cfg.v.a g2.cfg.v.l.length g2.cfg.v.c, .slice g2.cfg.o.a g2.cfg.o.l.length g2.cfg.o.c, .slice g2.cfg.l.a g2.cfg.l.l.length g2.cfg.l.c, .slice g2.cfg.w.a g2.cfg.w.l.length g2.cfg.w.c] := ⟨_, rfl⟩
  have x3 : Blk W3 X 40 #[U8V x.kind, I64 x.group, I64 x.src, I64 x.dst, I64 x.term, I64 x.index, I64 x.logt, I64 x.commit, .bool x.ok, .slice A1 x.ents.l.length c1, I64 g2.index, I64 g2.term, .slice g2.cfg.v.a g2.cfg.v.l.length g2.cfg.v.c, .slice g2.cfg.o.a g2.cfg.o.l.length g2.cfg.o.c, .slice g2.cfg.l.a g2.cfg.l.l.length g2.cfg.l.c, .slice g2.cfg.w.a g2.cfg.w.l.length g2.cfg.w.c, I64 x.size, I64 x.at_, I64 x.tag, .slice x.bytes.a x.bytes.l.length x.bytes.c] := by rw [hW3]; exact Blk.setCells (l := [U8V x.kind, I64 x.group, I64 x.src, I64 x.dst, I64 x.term, I64 x.index, I64 x.logt, I64 x.commit, .bool x.ok, .slice A1 x.ents.l.length c1, I64 x.base.index, I64 x.base.term, .slice x.base.cfg.v.a x.base.cfg.v.l.length x.base.cfg.v.c, .slice x.base.cfg.o.a x.base.cfg.o.l.length x.base.cfg.o.c, .slice x.base.cfg.l.a x.base.cfg.l.l.length x.base.cfg.l.c, .slice x.base.cfg.w.a x.base.cfg.w.l.length x.base.cfg.w.c, I64 x.size, I64 x.at_, I64 x.tag, .slice x.bytes.a x.bytes.l.length x.bytes.c]) xv3 10 [I64 g2.index, I64 g2.term, .slice g2.cfg.v.a g2.cfg.v.l.length g2.cfg.v.c, .slice g2.cfg.o.a g2.cfg.o.l.length g2.cfg.o.c, .slice g2.cfg.l.a g2.cfg.l.l.length g2.cfg.l.c, .slice g2.cfg.w.a g2.cfg.w.l.length g2.cfg.w.c]
  have m3 : Fr (· = X) v3 W3 := by rw [hW3]; exact (Fr.refl (· = X) _).setCells _ _
  have o3 : (#[I64 g2.index, I64 g2.term, .slice g2.cfg.v.a g2.cfg.v.l.length g2.cfg.v.c, .slice g2.cfg.o.a g2.cfg.o.l.length g2.cfg.o.c, .slice g2.cfg.l.a g2.cfg.l.l.length g2.cfg.l.c, .slice g2.cfg.w.a g2.cfg.w.l.length g2.cfg.w.c] : Array Value).all (·.oneCell') = true := by rw [List.all_toArray]; simp only [List.all_cons, List.all_nil]; rfl
  have y3 := yv3.fr m3 (fun h => hXY h.symm)
  have Q3 : Nw w W3 := Qv3.new m3 (fun b hb => by omega)
  have n1 := (n1.nw q3).fr m3 hXS
  have n2 := (w2.mono (F' := Since W1) (fun k hk _ => Nat.le_trans hS2 hk)).fr m3 hXS
  have hS3 : W1.heap.size ≤ W3.heap.size := Nat.le_trans (Nat.le_trans hS2 q3.size) m3.size
  have HW3 := Lib.hid hW3
  clear hW3 l3
  go_upto_region 3 with (refine wpList_store_mid rfl 37 _ _ rfl X 10 #[I64 g2.index, I64 g2.term, .slice g2.cfg.v.a g2.cfg.v.l.length g2.cfg.v.c, .slice g2.cfg.o.a g2.cfg.o.l.length g2.cfg.o.c, .slice g2.cfg.l.a g2.cfg.l.l.length g2.cfg.l.c, .slice g2.cfg.w.a g2.cfg.w.l.length g2.cfg.w.c] rfl rfl h3 (by kernel_rfl) o3 ?_)
  rw [← HW3.out]
  have l4 : W3.cell? ⟨X, 19, none⟩ = some (.slice x.bytes.a x.bytes.l.length x.bytes.c) := by simpa using x3.cell 19
  go_wp2_with fail
  refine (copy_u8 _ F _ _ _ ((hx.bytes.nw Q3).sl) (by have := hz.bytes; omega)).mono ?_
  rintro e v4 ⟨A3, c3, rfl, w3, q4, b3⟩
  have Qv4 : Nw w v4 := Q3.tr q4
  have xv4 := x3.fr q4 (fun h => h)
  have yv4 := y3.fr q4 (fun h => h)
  have f4 := xv4.frozen 19
  have g4 : v4.cell? ⟨X, 19, none⟩ = some (.slice x.bytes.a x.bytes.l.length x.bytes.c) := by simpa using xv4.cell 19
  obtain ⟨W4, hW4⟩ : ∃ W, W = v4.setCell ⟨X, 19, none⟩ (.slice A3 x.bytes.l.length c3) := ⟨_, rfl⟩
  have x4 : Blk W4 X 40 #[U8V x.kind, I64 x.group, I64 x.src, I64 x.dst, I64 x.term, I64 x.index, I64 x.logt, I64 x.commit, .bool x.ok, .slice A1 x.ents.l.length c1, I64 g2.index, I64 g2.term, .slice g2.cfg.v.a g2.cfg.v.l.length g2.cfg.v.c, .slice g2.cfg.o.a g2.cfg.o.l.length g2.cfg.o.c, .slice g2.cfg.l.a g2.cfg.l.l.length g2.cfg.l.c, .slice g2.cfg.w.a g2.cfg.w.l.length g2.cfg.w.c, I64 x.size, I64 x.at_, I64 x.tag, .slice A3 x.bytes.l.length c3] := by rw [hW4]; exact xv4.set_ 19 _
  have m4 : Fr (· = X) v4 W4 := by rw [hW4]; exact (Fr.refl (· = X) _).set1 _ _
  have y4 := yv4.fr m4 (fun h => hXY h.symm)
  have Q4 : Nw w W4 := Qv4.new m4 (fun b hb => by omega)
  have n1 := (n1.nw q4).fr m4 hXS
  have n2 := (n2.nw q4).fr m4 hXS
  have n3 := (w3.ls (w0 := W1) (l := x.bytes.l) rfl (fun k hk => Nat.le_trans hS3 (b3 k hk))).fr m4 hXS
  have hS4 : W1.heap.size ≤ W4.heap.size := Nat.le_trans (Nat.le_trans hS3 q4.size) m4.size
  have HW4 := Lib.hid hW4
  clear hW4 l4
  go_upto_region 4 with (fail)
  rw [← HW4.out]
  clear f4 g4
  have lz : ∀ p u, ([U8V x.kind, I64 x.group, I64 x.src, I64 x.dst, I64 x.term, I64 x.index, I64 x.logt, I64 x.commit, .bool x.ok, .slice A1 x.ents.l.length c1, I64 g2.index, I64 g2.term, .slice g2.cfg.v.a g2.cfg.v.l.length g2.cfg.v.c, .slice g2.cfg.o.a g2.cfg.o.l.length g2.cfg.o.c, .slice g2.cfg.l.a g2.cfg.l.l.length g2.cfg.l.c, .slice g2.cfg.w.a g2.cfg.w.l.length g2.cfg.w.c, I64 x.size, I64 x.at_, I64 x.tag, .slice A3 x.bytes.l.length c3] : List Value)[p]? = some u → W4.cell? ⟨X, 0 + p, none⟩ = some u := Blk.cells_in x4 0 20
  have hz := Blk.there (l := [U8V 0, I64 0, I64 0, I64 0, I64 0, I64 0, I64 0, I64 0, .bool false, .slice none 0 0, I64 0, I64 0, .slice none 0 0, .slice none 0 0, .slice none 0 0, .slice none 0 0, I64 0, I64 0, I64 0, .slice none 0 0]) y4 0 20 (by show 0 + 20 ≤ 20; omega)
  have oz : (#[U8V x.kind, I64 x.group, I64 x.src, I64 x.dst, I64 x.term, I64 x.index, I64 x.logt, I64 x.commit, .bool x.ok, .slice A1 x.ents.l.length c1, I64 g2.index, I64 g2.term, .slice g2.cfg.v.a g2.cfg.v.l.length g2.cfg.v.c, .slice g2.cfg.o.a g2.cfg.o.l.length g2.cfg.o.c, .slice g2.cfg.l.a g2.cfg.l.l.length g2.cfg.l.c, .slice g2.cfg.w.a g2.cfg.w.l.length g2.cfg.w.c, I64 x.size, I64 x.at_, I64 x.tag, .slice A3 x.bytes.l.length c3] : Array Value).all (·.oneCell') = true := by rw [List.all_toArray]; simp only [List.all_cons, List.all_nil]; rfl
  obtain ⟨WZ, hWZ⟩ : ∃ W, W = W4.setCells Y 0 [U8V x.kind, I64 x.group, I64 x.src, I64 x.dst, I64 x.term, I64 x.index, I64 x.logt, I64 x.commit, .bool x.ok, .slice A1 x.ents.l.length c1, I64 g2.index, I64 g2.term, .slice g2.cfg.v.a g2.cfg.v.l.length g2.cfg.v.c, .slice g2.cfg.o.a g2.cfg.o.l.length g2.cfg.o.c, .slice g2.cfg.l.a g2.cfg.l.l.length g2.cfg.l.c, .slice g2.cfg.w.a g2.cfg.w.l.length g2.cfg.w.c, I64 x.size, I64 x.at_, I64 x.tag, .slice A3 x.bytes.l.length c3] := ⟨_, rfl⟩
  have yz : Blk WZ Y 40 #[U8V x.kind, I64 x.group, I64 x.src, I64 x.dst, I64 x.term, I64 x.index, I64 x.logt, I64 x.commit, .bool x.ok, .slice A1 x.ents.l.length c1, I64 g2.index, I64 g2.term, .slice g2.cfg.v.a g2.cfg.v.l.length g2.cfg.v.c, .slice g2.cfg.o.a g2.cfg.o.l.length g2.cfg.o.c, .slice g2.cfg.l.a g2.cfg.l.l.length g2.cfg.l.c, .slice g2.cfg.w.a g2.cfg.w.l.length g2.cfg.w.c, I64 x.size, I64 x.at_, I64 x.tag, .slice A3 x.bytes.l.length c3] := by rw [hWZ]; exact Blk.setCells (l := [U8V 0, I64 0, I64 0, I64 0, I64 0, I64 0, I64 0, I64 0, .bool false, .slice none 0 0, I64 0, I64 0, .slice none 0 0, .slice none 0 0, .slice none 0 0, .slice none 0 0, I64 0, I64 0, I64 0, .slice none 0 0]) y4 0 [U8V x.kind, I64 x.group, I64 x.src, I64 x.dst, I64 x.term, I64 x.index, I64 x.logt, I64 x.commit, .bool x.ok, .slice A1 x.ents.l.length c1, I64 g2.index, I64 g2.term, .slice g2.cfg.v.a g2.cfg.v.l.length g2.cfg.v.c, .slice g2.cfg.o.a g2.cfg.o.l.length g2.cfg.o.c, .slice g2.cfg.l.a g2.cfg.l.l.length g2.cfg.l.c, .slice g2.cfg.w.a g2.cfg.w.l.length g2.cfg.w.c, I64 x.size, I64 x.at_, I64 x.tag, .slice A3 x.bytes.l.length c3]
  have mz : Fr (· = Y) W4 WZ := by rw [hWZ]; exact (Fr.refl (· = Y) _).setCells _ _
  have QZ : Nw w WZ := Q4.new mz (fun b hb => by omega)
  have HWZ := Lib.hid hWZ
  clear hWZ
  have n1 := (n1.fr mz hYS).mono (F' := Since w) (fun k hk _ => Nat.le_trans hSw hk)
  have n2 := (n2.fr mz hYS).mono (F' := Since w) (fun k hk _ => Nat.le_trans hSw hk)
  have n3 := (n3.fr mz hYS).mono (F' := Since w) (fun k hk _ => Nat.le_trans hSw hk)
  have el : ys.length = x.ents.l.length := by have := congrArg List.length e1; simpa using this
  go_wp2_with (first | (refine wl_load_cells rfl 40 _ rfl X 0 rfl [U8V x.kind, I64 x.group, I64 x.src, I64 x.dst, I64 x.term, I64 x.index, I64 x.logt, I64 x.commit, .bool x.ok, .slice A1 x.ents.l.length c1, I64 g2.index, I64 g2.term, .slice g2.cfg.v.a g2.cfg.v.l.length g2.cfg.v.c, .slice g2.cfg.o.a g2.cfg.o.l.length g2.cfg.o.c, .slice g2.cfg.l.a g2.cfg.l.l.length g2.cfg.l.c, .slice g2.cfg.w.a g2.cfg.w.l.length g2.cfg.w.c, I64 x.size, I64 x.at_, I64 x.tag, .slice A3 x.bytes.l.length c3] _ lz Try.underlying40 rfl (by kernel_rfl) ?_) | (refine wpList_store_mid rfl 40 _ _ rfl Y 0 #[U8V x.kind, I64 x.group, I64 x.src, I64 x.dst, I64 x.term, I64 x.index, I64 x.logt, I64 x.commit, .bool x.ok, .slice A1 x.ents.l.length c1, I64 g2.index, I64 g2.term, .slice g2.cfg.v.a g2.cfg.v.l.length g2.cfg.v.c, .slice g2.cfg.o.a g2.cfg.o.l.length g2.cfg.o.c, .slice g2.cfg.l.a g2.cfg.l.l.length g2.cfg.l.c, .slice g2.cfg.w.a g2.cfg.w.l.length g2.cfg.w.c, I64 x.size, I64 x.at_, I64 x.tag, .slice A3 x.bytes.l.length c3] rfl rfl hz (by kernel_rfl) oz ?_; rw [← HWZ.out]))
  refine bodyPost_ret (v := .agg #[U8V x.kind, I64 x.group, I64 x.src, I64 x.dst, I64 x.term, I64 x.index, I64 x.logt, I64 x.commit, .bool x.ok, .slice A1 x.ents.l.length c1, I64 g2.index, I64 g2.term, .slice g2.cfg.v.a g2.cfg.v.l.length g2.cfg.v.c, .slice g2.cfg.o.a g2.cfg.o.l.length g2.cfg.o.c, .slice g2.cfg.l.a g2.cfg.l.l.length g2.cfg.l.c, .slice g2.cfg.w.a g2.cfg.w.l.length g2.cfg.w.c, I64 x.size, I64 x.at_, I64 x.tag, .slice A3 x.bytes.l.length c3]) ?_ rfl ?_
  · exact results_cell_row rfl _ _ Y 40 _ (0, 0) _ rfl yz Try.underlying40 rfl (by kernel_rfl)
  exact ⟨{ x with ents := ⟨A1, c1, ys⟩, base := g2, bytes := ⟨A3, c3, x.bytes.l⟩ }, by rw [← el], by show (⟨x.kind, x.group, x.src, x.dst, x.term, x.index, x.logt, x.commit, x.ok, ys.map EntM.x, g2.x, x.size, x.at_, x.tag, x.bytes.l⟩ : LetF) = _; rw [e1, e2], ⟨hx.kind, n1.ls, n1.each, n2, n3⟩, QZ⟩
theorem info_let : (Try.prog.info? 40).map (fun i => (i.zero, i.size, i.bytes)) = some (some (.agg #[U8V 0, I64 0, I64 0, I64 0, I64 0, I64 0, I64 0, I64 0, .bool false, .slice none 0 0, I64 0, I64 0, .slice none 0 0, .slice none 0 0, .slice none 0 0, .slice none 0 0, I64 0, I64 0, I64 0, .slice none 0 0]), 20, 256) := by kernel_rfl
def copy_letsR (w : World) (xs : List LetM) (v i : Value) (wr : World) : Prop :=
  ∃ (k : Nat) (ys : List LetM) (B : Option Addr) (c : Nat), k ≤ xs.length ∧ i = .int .i64 k ∧ v = .slice B k c ∧ ys.map LetM.x = (xs.take k).map LetM.x ∧ Own wr 40 20 B k c (letsC ys) ∧ (∀ y ∈ ys, LetIn wr (fun k => Since w k ∧ ¬ inA B k) y) ∧ Nw w wr ∧ ∀ j, inA B j → w.heap.size ≤ j
end Go.Proofs.Ytippdjaakcgeoaa
