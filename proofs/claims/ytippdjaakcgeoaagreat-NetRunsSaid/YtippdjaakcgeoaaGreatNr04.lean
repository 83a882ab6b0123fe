/- Lemmas of the walks: CpC, ClA, Qld. (Laid together by shake.py.) -/
import Derived.Deep.RegionHeld3
import Derived.Test.YtippdjaakcgeoaaGreatNr01
import Derived.Test.YtippdjaakcgeoaaGreatNr03
set_option linter.unusedVariables false
set_option linter.unusedSimpArgs false
namespace Go.Proofs.YtippdjaakcgeoaaGreat
open Go Go.RowKit
set_option linter.unusedVariables false
set_option linter.unusedSimpArgs false
set_option maxRecDepth 100000 in
set_option maxHeartbeats 4000000 in
theorem copy_let (w : World) (F : Nat → Prop) (x : LetM) (hx : LetIn w F x) (hz : LetSz x) :
    Calls Tryz.prog 64 #[.agg (letA x)] w fun e w' => ∃ y : LetM, e = .returned (.agg (letA y)) ∧ y.x = x.x ∧ LetIn w' (Since w) y ∧ Nw w w' := by
  obtain ⟨X, hX⟩ : ∃ X, X = w.heap.size := ⟨_, rfl⟩
  obtain ⟨Y, hY⟩ : ∃ Y, Y = w.heap.size + 1 := ⟨_, rfl⟩
  obtain ⟨W0, hW0⟩ : ∃ W, W = w.alloc (.cells #[U8V x.kind, I64 x.group, I64 x.src, I64 x.dst, I64 x.term, I64 x.index, I64 x.logt, I64 x.commit, .bool x.ok, .slice x.ents.a x.ents.l.length x.ents.c, I64 x.base.index, I64 x.base.term, .slice x.base.cfg.v.a x.base.cfg.v.l.length x.base.cfg.v.c, .slice x.base.cfg.o.a x.base.cfg.o.l.length x.base.cfg.o.c, .slice x.base.cfg.l.a x.base.cfg.l.l.length x.base.cfg.l.c, .slice x.base.cfg.w.a x.base.cfg.w.l.length x.base.cfg.w.c, I64 x.size, I64 x.at_, I64 x.tag, .slice x.bytes.a x.bytes.l.length x.bytes.c] 50) := ⟨_, rfl⟩
  have p0 : Nw w W0 := by rw [hW0]; exact (Fr.refl (fun _ => False) _).alloc _
  have x0 : Blk W0 X 50 #[U8V x.kind, I64 x.group, I64 x.src, I64 x.dst, I64 x.term, I64 x.index, I64 x.logt, I64 x.commit, .bool x.ok, .slice x.ents.a x.ents.l.length x.ents.c, I64 x.base.index, I64 x.base.term, .slice x.base.cfg.v.a x.base.cfg.v.l.length x.base.cfg.v.c, .slice x.base.cfg.o.a x.base.cfg.o.l.length x.base.cfg.o.c, .slice x.base.cfg.l.a x.base.cfg.l.l.length x.base.cfg.l.c, .slice x.base.cfg.w.a x.base.cfg.w.l.length x.base.cfg.w.c, I64 x.size, I64 x.at_, I64 x.tag, .slice x.bytes.a x.bytes.l.length x.bytes.c] := by rw [hW0, hX]; exact Blk.new _ _ _
  have hz0 : W0.heap.size = Y := by rw [hW0, hY]; simp
  obtain ⟨W1, hW1⟩ : ∃ W, W = W0.alloc (.cells #[U8V 0, I64 0, I64 0, I64 0, I64 0, I64 0, I64 0, I64 0, .bool false, .slice none 0 0, I64 0, I64 0, .slice none 0 0, .slice none 0 0, .slice none 0 0, .slice none 0 0, I64 0, I64 0, I64 0, .slice none 0 0] 50) := ⟨_, rfl⟩
  have p1 : Nw W0 W1 := by rw [hW1]; exact (Fr.refl (fun _ => False) _).alloc _
  have y1 : Blk W1 Y 50 #[U8V 0, I64 0, I64 0, I64 0, I64 0, I64 0, I64 0, I64 0, .bool false, .slice none 0 0, I64 0, I64 0, .slice none 0 0, .slice none 0 0, .slice none 0 0, .slice none 0 0, I64 0, I64 0, I64 0, .slice none 0 0] := by rw [hW1, ← hz0]; exact Blk.new _ _ _
  have x1 := x0.fr p1 (fun h => h)
  have Q1 : Nw w W1 := p0.tr p1
  have hXw : w.heap.size ≤ X := by omega
  have hYw : w.heap.size ≤ Y := by omega
  have hXY : X ≠ Y := by omega
  have hXS : ∀ b, Since W1 b → ¬ b = X := fun b hb he => by have := x1.lt; unfold Since at hb; omega
  have hYS : ∀ b, Since W1 b → ¬ b = Y := fun b hb he => by have := y1.lt; unfold Since at hb; omega
  have hS1 : W1.heap.size ≤ W1.heap.size := Nat.le_refl _
  have hSw := Q1.size
  have HX := Lib.hid hX
  have HY := Lib.hid hY
  have HW0 := Lib.hid hW0
  have HW1 := Lib.hid hW1
  have HZ0 := Lib.hid hz0
  clear hX hY hW0 hW1 hz0 x0
  go_enter Tryz.func64, Tryz.ntmps64
  go_upto_region 1 with (fail)
  rw [← HY.out, ← HX.out, ← HW0.out, ← HW1.out]
  have l2 : W1.cell? ⟨X, 9, none⟩ = some (.slice x.ents.a x.ents.l.length x.ents.c) := by simpa using x1.cell 9
  go_wp2_with fail
  refine (copy_ents _ F _ _ _ ((hx.ents.nw Q1).sl) (fun e he => (hx.each e he).nw Q1) hz.each (by have := hz.ents; omega)).mono ?_
  rintro e v2 ⟨A1, c1, ys, rfl, e1, w1, i1, q2, b1⟩
  have Qv2 : Nw w v2 := Q1.tr q2
  have xv2 := x1.fr q2 (fun h => h)
  have yv2 := y1.fr q2 (fun h => h)
  have f2 := xv2.frozen 9
  have g2 : v2.cell? ⟨X, 9, none⟩ = some (.slice x.ents.a x.ents.l.length x.ents.c) := by simpa using xv2.cell 9
  obtain ⟨W2, hW2⟩ : ∃ W, W = v2.setCell ⟨X, 9, none⟩ (.slice A1 x.ents.l.length c1) := ⟨_, rfl⟩
  have x2 : Blk W2 X 50 #[U8V x.kind, I64 x.group, I64 x.src, I64 x.dst, I64 x.term, I64 x.index, I64 x.logt, I64 x.commit, .bool x.ok, .slice A1 x.ents.l.length c1, I64 x.base.index, I64 x.base.term, .slice x.base.cfg.v.a x.base.cfg.v.l.length x.base.cfg.v.c, .slice x.base.cfg.o.a x.base.cfg.o.l.length x.base.cfg.o.c, .slice x.base.cfg.l.a x.base.cfg.l.l.length x.base.cfg.l.c, .slice x.base.cfg.w.a x.base.cfg.w.l.length x.base.cfg.w.c, I64 x.size, I64 x.at_, I64 x.tag, .slice x.bytes.a x.bytes.l.length x.bytes.c] := by rw [hW2]; exact xv2.set_ 9 _
  have m2 : Fr (· = X) v2 W2 := by rw [hW2]; exact (Fr.refl (· = X) _).set1 _ _
  have y2 := yv2.fr m2 (fun h => hXY h.symm)
  have Q2 : Nw w W2 := Qv2.new m2 (fun b hb => by omega)
  have n1 := ((⟨w1.ls (w0 := W1) (by have := congrArg List.length e1; simpa using this) (fun k hk => Nat.le_trans hS1 (b1 k hk)), fun y hy => (i1 y hy).mono (F' := Since W1) (fun k hk _ => Nat.le_trans hS1 hk)⟩ : EntsIn v2 (Since W1) ⟨A1, c1, ys⟩)).fr m2 hXS
  have hS2 : W1.heap.size ≤ W2.heap.size := Nat.le_trans (Nat.le_trans hS1 q2.size) m2.size
  have HW2 := Lib.hid hW2
  clear hW2 l2
  go_upto_region 2 with (fail)
  rw [← HW2.out]
  clear f2 g2
  have l3 : ∀ p u, ([I64 x.base.index, I64 x.base.term, .slice x.base.cfg.v.a x.base.cfg.v.l.length x.base.cfg.v.c, .slice x.base.cfg.o.a x.base.cfg.o.l.length x.base.cfg.o.c, .slice x.base.cfg.l.a x.base.cfg.l.l.length x.base.cfg.l.c, .slice x.base.cfg.w.a x.base.cfg.w.l.length x.base.cfg.w.c] : List Value)[p]? = some u → W2.cell? ⟨X, 10 + p, none⟩ = some u := Blk.cells_in x2 10 6
  go_wp2_with (refine wl_load_cells rfl 47 _ rfl X 10 rfl [I64 x.base.index, I64 x.base.term, .slice x.base.cfg.v.a x.base.cfg.v.l.length x.base.cfg.v.c, .slice x.base.cfg.o.a x.base.cfg.o.l.length x.base.cfg.o.c, .slice x.base.cfg.l.a x.base.cfg.l.l.length x.base.cfg.l.c, .slice x.base.cfg.w.a x.base.cfg.w.l.length x.base.cfg.w.c] _ l3 Tryz.underlying47 rfl (by kernel_rfl) ?_)
  refine (copy_bas _ F x.base (hx.cfg.nw Q2) hz.cfg).mono ?_
  rintro e v3 ⟨g2, rfl, e2, w2, q3⟩
  have Qv3 : Nw w v3 := Q2.tr q3
  have xv3 := x2.fr q3 (fun h => h)
  have yv3 := y2.fr q3 (fun h => h)
  have h3 := Blk.there (l := [U8V x.kind, I64 x.group, I64 x.src, I64 x.dst, I64 x.term, I64 x.index, I64 x.logt, I64 x.commit, .bool x.ok, .slice A1 x.ents.l.length c1, I64 x.base.index, I64 x.base.term, .slice x.base.cfg.v.a x.base.cfg.v.l.length x.base.cfg.v.c, .slice x.base.cfg.o.a x.base.cfg.o.l.length x.base.cfg.o.c, .slice x.base.cfg.l.a x.base.cfg.l.l.length x.base.cfg.l.c, .slice x.base.cfg.w.a x.base.cfg.w.l.length x.base.cfg.w.c, I64 x.size, I64 x.at_, I64 x.tag, .slice x.bytes.a x.bytes.l.length x.bytes.c]) xv3 10 6 (by show 10 + 6 ≤ 20; omega)
  obtain ⟨W3, hW3⟩ : ∃ W, W = v3.setCells X 10 [I64 g2.index, I64 g2.term, .slice g2.cfg.v.a g2.cfg.v.l.length g2.cfg.v.c, .slice g2.cfg.o.a g2.cfg.o.l.length g2.cfg.o.c, .slice g2.cfg.l.a g2.cfg.l.l.length g2.cfg.l.c, .slice g2.cfg.w.a g2.cfg.w.l.length g2.cfg.w.c] := ⟨_, rfl⟩
  have x3 : Blk W3 X 50 #[U8V x.kind, I64 x.group, I64 x.src, I64 x.dst, I64 x.term, I64 x.index, I64 x.logt, I64 x.commit, .bool x.ok, .slice A1 x.ents.l.length c1, I64 g2.index, I64 g2.term, .slice g2.cfg.v.a g2.cfg.v.l.length g2.cfg.v.c, .slice g2.cfg.o.a g2.cfg.o.l.length g2.cfg.o.c, .slice g2.cfg.l.a g2.cfg.l.l.length g2.cfg.l.c, .slice g2.cfg.w.a g2.cfg.w.l.length g2.cfg.w.c, I64 x.size, I64 x.at_, I64 x.tag, .slice x.bytes.a x.bytes.l.length x.bytes.c] := by rw [hW3]; exact Blk.setCells (l := [U8V x.kind, I64 x.group, I64 x.src, I64 x.dst, I64 x.term, I64 x.index, I64 x.logt, I64 x.commit, .bool x.ok, .slice A1 x.ents.l.length c1, I64 x.base.index, I64 x.base.term, .slice x.base.cfg.v.a x.base.cfg.v.l.length x.base.cfg.v.c, .slice x.base.cfg.o.a x.base.cfg.o.l.length x.base.cfg.o.c, .slice x.base.cfg.l.a x.base.cfg.l.l.length x.base.cfg.l.c, .slice x.base.cfg.w.a x.base.cfg.w.l.length x.base.cfg.w.c, I64 x.size, I64 x.at_, I64 x.tag, .slice x.bytes.a x.bytes.l.length x.bytes.c]) xv3 10 [I64 g2.index, I64 g2.term, .slice g2.cfg.v.a g2.cfg.v.l.length g2.cfg.v.c, .slice g2.cfg.o.a g2.cfg.o.l.length g2.cfg.o.c, .slice g2.cfg.l.a g2.cfg.l.l.length g2.cfg.l.c, .slice g2.cfg.w.a g2.cfg.w.l.length g2.cfg.w.c]
  have m3 : Fr (· = X) v3 W3 := by rw [hW3]; exact (Fr.refl (· = X) _).setCells _ _
  have o3 : (#[I64 g2.index, I64 g2.term, .slice g2.cfg.v.a g2.cfg.v.l.length g2.cfg.v.c, .slice g2.cfg.o.a g2.cfg.o.l.length g2.cfg.o.c, .slice g2.cfg.l.a g2.cfg.l.l.length g2.cfg.l.c, .slice g2.cfg.w.a g2.cfg.w.l.length g2.cfg.w.c] : Array Value).all (·.oneCell') = true := by rw [List.all_toArray]; simp only [List.all_cons, List.all_nil]; rfl
  have y3 := yv3.fr m3 (fun h => hXY h.symm)
  have Q3 : Nw w W3 := Qv3.new m3 (fun b hb => by omega)
  have n1 := (n1.nw q3).fr m3 hXS
  have n2 := (w2.mono (F' := Since W1) (fun k hk _ => Nat.le_trans hS2 hk)).fr m3 hXS
  have hS3 : W1.heap.size ≤ W3.heap.size := Nat.le_trans (Nat.le_trans hS2 q3.size) m3.size
  have HW3 := Lib.hid hW3
  clear hW3 l3
  go_upto_region 3 with (refine wpList_store_mid rfl 47 _ _ rfl X 10 #[I64 g2.index, I64 g2.term, .slice g2.cfg.v.a g2.cfg.v.l.length g2.cfg.v.c, .slice g2.cfg.o.a g2.cfg.o.l.length g2.cfg.o.c, .slice g2.cfg.l.a g2.cfg.l.l.length g2.cfg.l.c, .slice g2.cfg.w.a g2.cfg.w.l.length g2.cfg.w.c] rfl rfl h3 (by kernel_rfl) o3 ?_)
  rw [← HW3.out]
  have l4 : W3.cell? ⟨X, 19, none⟩ = some (.slice x.bytes.a x.bytes.l.length x.bytes.c) := by simpa using x3.cell 19
  go_wp2_with fail
  refine (copy_u8 _ F _ _ _ ((hx.bytes.nw Q3).sl) (by have := hz.bytes; omega)).mono ?_
  rintro e v4 ⟨A3, c3, rfl, w3, q4, b3⟩
  have Qv4 : Nw w v4 := Q3.tr q4
  have xv4 := x3.fr q4 (fun h => h)
  have yv4 := y3.fr q4 (fun h => h)
  have f4 := xv4.frozen 19
  have g4 : v4.cell? ⟨X, 19, none⟩ = some (.slice x.bytes.a x.bytes.l.length x.bytes.c) := by simpa using xv4.cell 19
  obtain ⟨W4, hW4⟩ : ∃ W, W = v4.setCell ⟨X, 19, none⟩ (.slice A3 x.bytes.l.length c3) := ⟨_, rfl⟩
  have x4 : Blk W4 X 50 #[U8V x.kind, I64 x.group, I64 x.src, I64 x.dst, I64 x.term, I64 x.index, I64 x.logt, I64 x.commit, .bool x.ok, .slice A1 x.ents.l.length c1, I64 g2.index, I64 g2.term, .slice g2.cfg.v.a g2.cfg.v.l.length g2.cfg.v.c, .slice g2.cfg.o.a g2.cfg.o.l.length g2.cfg.o.c, .slice g2.cfg.l.a g2.cfg.l.l.length g2.cfg.l.c, .slice g2.cfg.w.a g2.cfg.w.l.length g2.cfg.w.c, I64 x.size, I64 x.at_, I64 x.tag, .slice A3 x.bytes.l.length c3] := by rw [hW4]; exact xv4.set_ 19 _
  have m4 : Fr (· = X) v4 W4 := by rw [hW4]; exact (Fr.refl (· = X) _).set1 _ _
  have y4 := yv4.fr m4 (fun h => hXY h.symm)
  have Q4 : Nw w W4 := Qv4.new m4 (fun b hb => by omega)
  have n1 := (n1.nw q4).fr m4 hXS
  have n2 := (n2.nw q4).fr m4 hXS
  have n3 := (w3.ls (w0 := W1) (l := x.bytes.l) rfl (fun k hk => Nat.le_trans hS3 (b3 k hk))).fr m4 hXS
  have hS4 : W1.heap.size ≤ W4.heap.size := Nat.le_trans (Nat.le_trans hS3 q4.size) m4.size
  have HW4 := Lib.hid hW4
  clear hW4 l4
  go_upto_region 4 with (fail)
  rw [← HW4.out]
  clear f4 g4
  have lz : ∀ p u, ([U8V x.kind, I64 x.group, I64 x.src, I64 x.dst, I64 x.term, I64 x.index, I64 x.logt, I64 x.commit, .bool x.ok, .slice A1 x.ents.l.length c1, I64 g2.index, I64 g2.term, .slice g2.cfg.v.a g2.cfg.v.l.length g2.cfg.v.c, .slice g2.cfg.o.a g2.cfg.o.l.length g2.cfg.o.c, .slice g2.cfg.l.a g2.cfg.l.l.length g2.cfg.l.c, .slice g2.cfg.w.a g2.cfg.w.l.length g2.cfg.w.c, I64 x.size, I64 x.at_, I64 x.tag, .slice A3 x.bytes.l.length c3] : List Value)[p]? = some u → W4.cell? ⟨X, 0 + p, none⟩ = some u := Blk.cells_in x4 0 20
  have hz := Blk.there (l := [U8V 0, I64 0, I64 0, I64 0, I64 0, I64 0, I64 0, I64 0, .bool false, .slice none 0 0, I64 0, I64 0, .slice none 0 0, .slice none 0 0, .slice none 0 0, .slice none 0 0, I64 0, I64 0, I64 0, .slice none 0 0]) y4 0 20 (by show 0 + 20 ≤ 20; omega)
  have oz : (#[U8V x.kind, I64 x.group, I64 x.src, I64 x.dst, I64 x.term, I64 x.index, I64 x.logt, I64 x.commit, .bool x.ok, .slice A1 x.ents.l.length c1, I64 g2.index, I64 g2.term, .slice g2.cfg.v.a g2.cfg.v.l.length g2.cfg.v.c, .slice g2.cfg.o.a g2.cfg.o.l.length g2.cfg.o.c, .slice g2.cfg.l.a g2.cfg.l.l.length g2.cfg.l.c, .slice g2.cfg.w.a g2.cfg.w.l.length g2.cfg.w.c, I64 x.size, I64 x.at_, I64 x.tag, .slice A3 x.bytes.l.length c3] : Array Value).all (·.oneCell') = true := by rw [List.all_toArray]; simp only [List.all_cons, List.all_nil]; rfl
  obtain ⟨WZ, hWZ⟩ : ∃ W, W = W4.setCells Y 0 [U8V x.kind, I64 x.group, I64 x.src, I64 x.dst, I64 x.term, I64 x.index, I64 x.logt, I64 x.commit, .bool x.ok, .slice A1 x.ents.l.length c1, I64 g2.index, I64 g2.term, .slice g2.cfg.v.a g2.cfg.v.l.length g2.cfg.v.c, .slice g2.cfg.o.a g2.cfg.o.l.length g2.cfg.o.c, .slice g2.cfg.l.a g2.cfg.l.l.length g2.cfg.l.c, .slice g2.cfg.w.a g2.cfg.w.l.length g2.cfg.w.c, I64 x.size, I64 x.at_, I64 x.tag, .slice A3 x.bytes.l.length c3] := ⟨_, rfl⟩
  have yz : Blk WZ Y 50 #[U8V x.kind, I64 x.group, I64 x.src, I64 x.dst, I64 x.term, I64 x.index, I64 x.logt, I64 x.commit, .bool x.ok, .slice A1 x.ents.l.length c1, I64 g2.index, I64 g2.term, .slice g2.cfg.v.a g2.cfg.v.l.length g2.cfg.v.c, .slice g2.cfg.o.a g2.cfg.o.l.length g2.cfg.o.c, .slice g2.cfg.l.a g2.cfg.l.l.length g2.cfg.l.c, .slice g2.cfg.w.a g2.cfg.w.l.length g2.cfg.w.c, I64 x.size, I64 x.at_, I64 x.tag, .slice A3 x.bytes.l.length c3] := by rw [hWZ]; exact Blk.setCells (l := [U8V 0, I64 0, I64 0, I64 0, I64 0, I64 0, I64 0, I64 0, .bool false, .slice none 0 0, I64 0, I64 0, .slice none 0 0, .slice none 0 0, .slice none 0 0, .slice none 0 0, I64 0, I64 0, I64 0, .slice none 0 0]) y4 0 [U8V x.kind, I64 x.group, I64 x.src, I64 x.dst, I64 x.term, I64 x.index, I64 x.logt, I64 x.commit, .bool x.ok, .slice A1 x.ents.l.length c1, I64 g2.index, I64 g2.term, .slice g2.cfg.v.a g2.cfg.v.l.length g2.cfg.v.c, .slice g2.cfg.o.a g2.cfg.o.l.length g2.cfg.o.c, .slice g2.cfg.l.a g2.cfg.l.l.length g2.cfg.l.c, .slice g2.cfg.w.a g2.cfg.w.l.length g2.cfg.w.c, I64 x.size, I64 x.at_, I64 x.tag, .slice A3 x.bytes.l.length c3]
  have mz : Fr (· = Y) W4 WZ := by rw [hWZ]; exact (Fr.refl (· = Y) _).setCells _ _
  have QZ : Nw w WZ := Q4.new mz (fun b hb => by omega)
  have HWZ := Lib.hid hWZ
  clear hWZ
  have n1 := (n1.fr mz hYS).mono (F' := Since w) (fun k hk _ => Nat.le_trans hSw hk)
  have n2 := (n2.fr mz hYS).mono (F' := Since w) (fun k hk _ => Nat.le_trans hSw hk)
  have n3 := (n3.fr mz hYS).mono (F' := Since w) (fun k hk _ => Nat.le_trans hSw hk)
  have el : ys.length = x.ents.l.length := by have := congrArg List.length e1; simpa using this
  go_wp2_with (first | (refine wl_load_cells rfl 50 _ rfl X 0 rfl [U8V x.kind, I64 x.group, I64 x.src, I64 x.dst, I64 x.term, I64 x.index, I64 x.logt, I64 x.commit, .bool x.ok, .slice A1 x.ents.l.length c1, I64 g2.index, I64 g2.term, .slice g2.cfg.v.a g2.cfg.v.l.length g2.cfg.v.c, .slice g2.cfg.o.a g2.cfg.o.l.length g2.cfg.o.c, .slice g2.cfg.l.a g2.cfg.l.l.length g2.cfg.l.c, .slice g2.cfg.w.a g2.cfg.w.l.length g2.cfg.w.c, I64 x.size, I64 x.at_, I64 x.tag, .slice A3 x.bytes.l.length c3] _ lz Tryz.underlying50 rfl (by kernel_rfl) ?_) | (refine wpList_store_mid rfl 50 _ _ rfl Y 0 #[U8V x.kind, I64 x.group, I64 x.src, I64 x.dst, I64 x.term, I64 x.index, I64 x.logt, I64 x.commit, .bool x.ok, .slice A1 x.ents.l.length c1, I64 g2.index, I64 g2.term, .slice g2.cfg.v.a g2.cfg.v.l.length g2.cfg.v.c, .slice g2.cfg.o.a g2.cfg.o.l.length g2.cfg.o.c, .slice g2.cfg.l.a g2.cfg.l.l.length g2.cfg.l.c, .slice g2.cfg.w.a g2.cfg.w.l.length g2.cfg.w.c, I64 x.size, I64 x.at_, I64 x.tag, .slice A3 x.bytes.l.length c3] rfl rfl hz (by kernel_rfl) oz ?_; rw [← HWZ.out]))
  refine bodyPost_ret (v := .agg #[U8V x.kind, I64 x.group, I64 x.src, I64 x.dst, I64 x.term, I64 x.index, I64 x.logt, I64 x.commit, .bool x.ok, .slice A1 x.ents.l.length c1, I64 g2.index, I64 g2.term, .slice g2.cfg.v.a g2.cfg.v.l.length g2.cfg.v.c, .slice g2.cfg.o.a g2.cfg.o.l.length g2.cfg.o.c, .slice g2.cfg.l.a g2.cfg.l.l.length g2.cfg.l.c, .slice g2.cfg.w.a g2.cfg.w.l.length g2.cfg.w.c, I64 x.size, I64 x.at_, I64 x.tag, .slice A3 x.bytes.l.length c3]) ?_ rfl ?_
  · exact results_cell_row rfl _ _ Y 50 _ (0, 0) _ rfl yz Tryz.underlying50 rfl (by kernel_rfl)
  exact ⟨{ x with ents := ⟨A1, c1, ys⟩, base := g2, bytes := ⟨A3, c3, x.bytes.l⟩ }, by rw [← el], by show (⟨x.kind, x.group, x.src, x.dst, x.term, x.index, x.logt, x.commit, x.ok, ys.map EntM.x, g2.x, x.size, x.at_, x.tag, x.bytes.l⟩ : LetF) = _; rw [e1, e2], ⟨hx.kind, n1.ls, n1.each, n2, n3⟩, QZ⟩
theorem info_let : (Tryz.prog.info? 50).map (fun i => (i.zero, i.size, i.bytes)) = some (some (.agg #[U8V 0, I64 0, I64 0, I64 0, I64 0, I64 0, I64 0, I64 0, .bool false, .slice none 0 0, I64 0, I64 0, .slice none 0 0, .slice none 0 0, .slice none 0 0, .slice none 0 0, I64 0, I64 0, I64 0, .slice none 0 0]), 20, 256) := by kernel_rfl
def copy_letsR (w : World) (xs : List LetM) (v i : Value) (wr : World) : Prop :=
  ∃ (k : Nat) (ys : List LetM) (B : Option Addr) (c : Nat), k ≤ xs.length ∧ i = .int .i64 k ∧ v = .slice B k c ∧ ys.map LetM.x = (xs.take k).map LetM.x ∧ Own wr 50 20 B k c (letsC ys) ∧ (∀ y ∈ ys, LetIn wr (fun k => Since w k ∧ ¬ inA B k) y) ∧ Nw w wr ∧ ∀ j, inA B j → w.heap.size ≤ j
end Go.Proofs.YtippdjaakcgeoaaGreat

namespace Go.Proofs.YtippdjaakcgeoaaGreat
open Go Go.RowKit
set_option linter.unusedVariables false
set_option linter.unusedSimpArgs false
/-- A list of the call's own, made since w0. -/
structure LsOwn {α : Type} (w0 w : World) (E : TypeId) (z : Nat) (f : List α → List Value) (s : Ls α) : Prop where
  own : Own w E z s.a s.l.length s.c (f s.l)
  base : ∀ k, inA s.a k → w0.heap.size ≤ k
theorem LsOwn.in_ {α : Type} {w0 w : World} {E : TypeId} {z : Nat} {f : List α → List Value} {s : Ls α} (h : LsOwn w0 w E z f s) : LsIn w (Since w0) f s :=
  ⟨h.own.sl.mono fun k hk _ => h.base k hk, h.own.cap_le⟩
theorem LsOwn.fr {α : Type} {w0 w w' : World} {S : Nat → Prop} {E : TypeId} {z : Nat} {f : List α → List Value} {s : Ls α} (h : LsOwn w0 w E z f s) (hf : Fr S w w') (hn : ∀ k, inA s.a k → ¬ S k) : LsOwn w0 w' E z f s := ⟨h.own.fr hf hn, h.base⟩
theorem LsOwn.nw {α : Type} {w0 w w' : World} {E : TypeId} {z : Nat} {f : List α → List Value} {s : Ls α} (h : LsOwn w0 w E z f s) (hf : Nw w w') : LsOwn w0 w' E z f s := h.fr hf (fun _ _ h => h)
theorem LsOwn.from_ {α : Type} {w0 w1 w : World} {E : TypeId} {z : Nat} {f : List α → List Value} {s : Ls α} (h : LsOwn w1 w E z f s) (hb : w0.heap.size ≤ w1.heap.size) : LsOwn w0 w E z f s := ⟨h.own, fun k hk => Nat.le_trans hb (h.base k hk)⟩
theorem LsOwn.lt {α : Type} {w0 w : World} {E : TypeId} {z : Nat} {f : List α → List Value} {s : Ls α} (h : LsOwn w0 w E z f s) : ∀ k, inA s.a k → k < w.heap.size := h.own.lt
theorem clone_int (w : World) (F : Nat → Prop) (A : Option Addr) (c : Nat) (l : List Int) (hs : Sl w F A (intsC l)) (hsz : l.length ≤ 1000000000) :
    Calls Tryz.prog 151 #[.slice A l.length c] w fun e w' => ∃ A' c', e = .returned (.slice A' l.length c') ∧ LsOwn w w' 3 1 intsC ⟨A', c', l⟩ ∧ Nw w w' := by
  have hnil := fun (w : World) (A : Option Addr) (n : Nat) => Lib.run_eql_slice_nil (P := Tryz.prog) w 41 3 A n c 0 0 Tryz.underlying41
  cases A with
  | none =>
    have hb : l = [] := by
      rcases hs with h | ⟨b, o, h, _⟩
      · simpa [intsC] using h
      · cases h
    subst hb
    go_enter Tryz.func151, Tryz.ntmps151
    go_wp2_with fail
    go_ret
    exact ⟨none, 0, rfl, ⟨Own.nil _ _ _, fun k hk => (inA_none k hk).elim⟩, Fr.refl _ _⟩
  | some a =>
    go_enter Tryz.func151, Tryz.ntmps151
    go_wp2_with (at_builtin; refine wl_append rfl _ _ _ rfl 8 (.int .i64 0) Tryz.underlying41 info_int rfl (by decide) rfl (Own.new w 3 1 0 0 #[] (Nat.le_refl _) (by decide) rfl) rfl (hs.alloc _) (by simp [intsC]) (intsC_cell l) (by omega) (by unfold maxLen; omega) ?_; intro A' cap' w1 ho hf hin)
    go_ret
    simp only [Nat.zero_add, Nat.zero_mul, List.take_zero, List.nil_append] at ho
    refine ⟨A', cap', rfl, ⟨ho, fun k hk => ?_⟩, ((Fr.refl _ w).alloc _).trans hf fun k hk => .inr ?_⟩
    · rcases hin k hk with h | h
      · rw [(inA_some _ _).1 h]; exact Nat.le_refl _
      · rw [h]; simp
    · rw [(inA_some _ _).1 hk]; exact Nat.le_refl _
theorem clone_by (w : World) (F : Nat → Prop) (A : Option Addr) (c : Nat) (l : List UInt8) (hs : Sl w F A (bytesC l)) (hsz : l.length ≤ 1000000000) :
    Calls Tryz.prog 74 #[.slice A l.length c] w fun e w' => ∃ A' c', e = .returned (.slice A' l.length c') ∧ LsOwn w w' 5 1 bytesC ⟨A', c', l⟩ ∧ Nw w w' :=
  (clone_u8 w F A c l hs (by omega)).mono fun e w' ⟨A', c', h1, h2, h3, h4⟩ => ⟨A', c', h1, ⟨h2, h4⟩, h3⟩
theorem clone_ent (w : World) (F : Nat → Prop) (A : Option Addr) (c : Nat) (l : List EntM) (hs : Sl w F A (entsC l)) (hsz : l.length ≤ 1000000000) :
    Calls Tryz.prog 75 #[.slice A l.length c] w fun e w' => ∃ A' c', e = .returned (.slice A' l.length c') ∧ LsOwn w w' 87 7 entsC ⟨A', c', l⟩ ∧ Nw w w' := by
  have hnil := fun (w : World) (A : Option Addr) (n : Nat) => Lib.run_eql_slice_nil (P := Tryz.prog) w 43 87 A n c 0 0 Tryz.underlying43
  cases A with
  | none =>
    have hb : l = [] := by
      rcases hs with h | ⟨b, o, h, _⟩
      · have := congrArg List.length h
        rw [entsC_len] at this
        exact List.eq_nil_of_length_eq_zero (by simp at this; omega)
      · cases h
    subst hb
    go_enter Tryz.func75, Tryz.ntmps75
    go_wp2_with fail
    go_ret
    exact ⟨none, 0, rfl, ⟨Own.nil _ _ _, fun k hk => (inA_none k hk).elim⟩, Fr.refl _ _⟩
  | some a =>
    have hl := entsC_len l
    go_enter Tryz.func75, Tryz.ntmps75
    go_wp2_with (at_builtin; refine wl_append (size := 7) rfl _ _ _ rfl 136 (.agg #[I64 0, U8V 0, .slice none 0 0, .slice none 0 0, .slice none 0 0, .slice none 0 0, .slice none 0 0]) Tryz.underlying43 info_ent rfl (by decide) rfl (Own.new w 87 7 0 0 #[] (Nat.le_refl _) (by decide) rfl) rfl (hs.alloc _) hl (entsC_cell l) (by omega) (by unfold maxLen; omega) ?_; intro A' cap' w1 ho hf hin)
    go_ret
    simp only [Nat.zero_add, Nat.zero_mul, List.take_zero, List.nil_append] at ho
    refine ⟨A', cap', rfl, ⟨ho, fun k hk => ?_⟩, ((Fr.refl _ w).alloc _).trans hf fun k hk => .inr ?_⟩
    · rcases hin k hk with h | h
      · rw [(inA_some _ _).1 h]; exact Nat.le_refl _
      · rw [h]; simp
    · rw [(inA_some _ _).1 hk]; exact Nat.le_refl _
/-- A config whose lists are its own: each made behind the one ahead. -/
structure CfgOwn (w0 w : World) (c : CfgM) : Prop where
  v : LsOwn w0 w 3 1 intsC c.v
  o : LsOwn w0 w 3 1 intsC c.o
  l : LsOwn w0 w 3 1 intsC c.l
  w : LsOwn w0 w 3 1 intsC c.w
  vo : ∀ k j, inA c.v.a k → inA c.o.a j → k < j
  ol : ∀ k j, inA c.o.a k → inA c.l.a j → k < j
  lw : ∀ k j, inA c.l.a k → inA c.w.a j → k < j
  vl : ∀ k j, inA c.v.a k → inA c.l.a j → k < j
  vw : ∀ k j, inA c.v.a k → inA c.w.a j → k < j
  ow : ∀ k j, inA c.o.a k → inA c.w.a j → k < j
theorem CfgOwn.nw {w0 w w' : World} {c : CfgM} (h : CfgOwn w0 w c) (f : Nw w w') : CfgOwn w0 w' c := { h with v := h.v.nw f, o := h.o.nw f, l := h.l.nw f, w := h.w.nw f }
theorem CfgOwn.fr {w0 w w' : World} {S : Nat → Prop} {c : CfgM} (h : CfgOwn w0 w c) (f : Fr S w w') (hn : ∀ k, w0.heap.size ≤ k → ¬ S k) : CfgOwn w0 w' c :=
  { h with v := h.v.fr f (fun k hk => hn k (h.v.base k hk)), o := h.o.fr f (fun k hk => hn k (h.o.base k hk)), l := h.l.fr f (fun k hk => hn k (h.l.base k hk)), w := h.w.fr f (fun k hk => hn k (h.w.base k hk)) }
theorem CfgOwn.from_ {w0 w1 w : World} {c : CfgM} (h : CfgOwn w1 w c) (hb : w0.heap.size ≤ w1.heap.size) : CfgOwn w0 w c := { h with v := h.v.from_ hb, o := h.o.from_ hb, l := h.l.from_ hb, w := h.w.from_ hb }
theorem CfgOwn.in_ {w0 w : World} {c : CfgM} (h : CfgOwn w0 w c) : CfgIn w (Since w0) c := ⟨h.v.in_, h.o.in_, h.l.in_, h.w.in_⟩
set_option maxRecDepth 100000 in
set_option maxHeartbeats 8000000 in
theorem lconfig_any (w : World) (F : Nat → Prop) (x : CfgM) (hx : CfgIn w F x) (hz : CfgSz x) :
    Calls Tryz.prog 76 #[.agg (cfgA x)] w fun e w' => ∃ y : CfgM, e = .returned (.agg (cfgA y)) ∧ y.x = x.x ∧ CfgOwn w w' y ∧ Nw w w' := by
  obtain ⟨X, hX⟩ : ∃ X, X = w.heap.size := ⟨_, rfl⟩
  obtain ⟨Y, hY⟩ : ∃ Y, Y = w.heap.size + 1 := ⟨_, rfl⟩
  obtain ⟨W0, hW0⟩ : ∃ W, W = w.alloc (.cells (cfgA x) 45) := ⟨_, rfl⟩
  have p0 : Nw w W0 := by rw [hW0]; exact (Fr.refl (fun _ => False) _).alloc _
  have x0 : Blk W0 X 45 (cfgA x) := by rw [hW0, hX]; exact Blk.new _ _ _
  have hz0 : W0.heap.size = Y := by rw [hW0, hY]; simp
  obtain ⟨W1, hW1⟩ : ∃ W, W = W0.alloc (.cells #[.slice none 0 0, .slice none 0 0, .slice none 0 0, .slice none 0 0] 45) := ⟨_, rfl⟩
  have p1 : Nw W0 W1 := by rw [hW1]; exact (Fr.refl (fun _ => False) _).alloc _
  have y1 : Blk W1 Y 45 #[.slice none 0 0, .slice none 0 0, .slice none 0 0, .slice none 0 0] := by rw [hW1, ← hz0]; exact Blk.new _ _ _
  have x1 := x0.fr p1 (fun h => h)
  have pw := p0.tr p1
  have hS : ∀ w1, Nw W1 w1 → w1.cell? ⟨X, 0, none⟩ = some x.v.v ∧ w1.cell? ⟨X, 1, none⟩ = some x.o.v ∧ w1.cell? ⟨X, 2, none⟩ = some x.l.v ∧ w1.cell? ⟨X, 3, none⟩ = some x.w.v := fun w1 f => by
    have a := x1.fr f (fun h => h)
    exact ⟨by simpa using a.cell 0, by simpa using a.cell 1, by simpa using a.cell 2, by simpa using a.cell 3⟩
  have zv : ∀ w1, Nw W1 w1 → _ := fun w1 f => clone_int w1 F x.v.a x.v.c x.v.l (hx.v.nw (pw.tr f)).sl (by have := hz.v; omega)
  have zo : ∀ w1, Nw W1 w1 → _ := fun w1 f => clone_int w1 F x.o.a x.o.c x.o.l (hx.o.nw (pw.tr f)).sl (by have := hz.o; omega)
  have zl : ∀ w1, Nw W1 w1 → _ := fun w1 f => clone_int w1 F x.l.a x.l.c x.l.l (hx.l.nw (pw.tr f)).sl (by have := hz.l; omega)
  have zw : ∀ w1, Nw W1 w1 → _ := fun w1 f => clone_int w1 F x.w.a x.w.c x.w.l (hx.w.nw (pw.tr f)).sl (by have := hz.w; omega)
  have Q0 : Nw W1 W1.drew := (Fr.refl (fun _ => False) W1).drew
  have HX := Lib.hid hX
  have HY := Lib.hid hY
  have HW0 := Lib.hid hW0
  have HW1 := Lib.hid hW1
  have HS := Lib.hid hS
  have HV := Lib.hid zv
  have HO := Lib.hid zo
  have HL := Lib.hid zl
  have HWW := Lib.hid zw
  have hXY : X ≠ Y := by omega
  have hYw : w.heap.size ≤ Y := by omega
  have holdc : ∀ (w1 w2 w3 w4 : World) (A1 A2 A3 A4 : Option Addr) (c1 c2 c3 c4 : Nat), Nw W1 w4 → (((w4.setCell ⟨Y, 0, none⟩ (.slice A1 x.v.l.length c1))).cell? ⟨X, 0, none⟩ = some x.v.v ∧ ((w4.setCell ⟨Y, 0, none⟩ (.slice A1 x.v.l.length c1))).cell? ⟨X, 1, none⟩ = some x.o.v ∧ ((w4.setCell ⟨Y, 0, none⟩ (.slice A1 x.v.l.length c1))).cell? ⟨X, 2, none⟩ = some x.l.v ∧ ((w4.setCell ⟨Y, 0, none⟩ (.slice A1 x.v.l.length c1))).cell? ⟨X, 3, none⟩ = some x.w.v) ∧ ((((w4.setCell ⟨Y, 0, none⟩ (.slice A1 x.v.l.length c1)).setCell ⟨Y, 1, none⟩ (.slice A2 x.o.l.length c2))).cell? ⟨X, 0, none⟩ = some x.v.v ∧ (((w4.setCell ⟨Y, 0, none⟩ (.slice A1 x.v.l.length c1)).setCell ⟨Y, 1, none⟩ (.slice A2 x.o.l.length c2))).cell? ⟨X, 1, none⟩ = some x.o.v ∧ (((w4.setCell ⟨Y, 0, none⟩ (.slice A1 x.v.l.length c1)).setCell ⟨Y, 1, none⟩ (.slice A2 x.o.l.length c2))).cell? ⟨X, 2, none⟩ = some x.l.v ∧ (((w4.setCell ⟨Y, 0, none⟩ (.slice A1 x.v.l.length c1)).setCell ⟨Y, 1, none⟩ (.slice A2 x.o.l.length c2))).cell? ⟨X, 3, none⟩ = some x.w.v) ∧ (((((w4.setCell ⟨Y, 0, none⟩ (.slice A1 x.v.l.length c1)).setCell ⟨Y, 1, none⟩ (.slice A2 x.o.l.length c2)).setCell ⟨Y, 2, none⟩ (.slice A3 x.l.l.length c3))).cell? ⟨X, 0, none⟩ = some x.v.v ∧ ((((w4.setCell ⟨Y, 0, none⟩ (.slice A1 x.v.l.length c1)).setCell ⟨Y, 1, none⟩ (.slice A2 x.o.l.length c2)).setCell ⟨Y, 2, none⟩ (.slice A3 x.l.l.length c3))).cell? ⟨X, 1, none⟩ = some x.o.v ∧ ((((w4.setCell ⟨Y, 0, none⟩ (.slice A1 x.v.l.length c1)).setCell ⟨Y, 1, none⟩ (.slice A2 x.o.l.length c2)).setCell ⟨Y, 2, none⟩ (.slice A3 x.l.l.length c3))).cell? ⟨X, 2, none⟩ = some x.l.v ∧ ((((w4.setCell ⟨Y, 0, none⟩ (.slice A1 x.v.l.length c1)).setCell ⟨Y, 1, none⟩ (.slice A2 x.o.l.length c2)).setCell ⟨Y, 2, none⟩ (.slice A3 x.l.l.length c3))).cell? ⟨X, 3, none⟩ = some x.w.v) ∧ ((((((w4.setCell ⟨Y, 0, none⟩ (.slice A1 x.v.l.length c1)).setCell ⟨Y, 1, none⟩ (.slice A2 x.o.l.length c2)).setCell ⟨Y, 2, none⟩ (.slice A3 x.l.l.length c3)).setCell ⟨Y, 3, none⟩ (.slice A4 x.w.l.length c4))).cell? ⟨X, 0, none⟩ = some x.v.v ∧ (((((w4.setCell ⟨Y, 0, none⟩ (.slice A1 x.v.l.length c1)).setCell ⟨Y, 1, none⟩ (.slice A2 x.o.l.length c2)).setCell ⟨Y, 2, none⟩ (.slice A3 x.l.l.length c3)).setCell ⟨Y, 3, none⟩ (.slice A4 x.w.l.length c4))).cell? ⟨X, 1, none⟩ = some x.o.v ∧ (((((w4.setCell ⟨Y, 0, none⟩ (.slice A1 x.v.l.length c1)).setCell ⟨Y, 1, none⟩ (.slice A2 x.o.l.length c2)).setCell ⟨Y, 2, none⟩ (.slice A3 x.l.l.length c3)).setCell ⟨Y, 3, none⟩ (.slice A4 x.w.l.length c4))).cell? ⟨X, 2, none⟩ = some x.l.v ∧ (((((w4.setCell ⟨Y, 0, none⟩ (.slice A1 x.v.l.length c1)).setCell ⟨Y, 1, none⟩ (.slice A2 x.o.l.length c2)).setCell ⟨Y, 2, none⟩ (.slice A3 x.l.l.length c3)).setCell ⟨Y, 3, none⟩ (.slice A4 x.w.l.length c4))).cell? ⟨X, 3, none⟩ = some x.w.v) := by
    intro w1 w2 w3 w4 A1 A2 A3 A4 c1 c2 c3 c4 f
    have a := x1.fr f (fun h => h)
    have a1 := a.fr ((Fr.refl (· = Y) w4).set1 0 (.slice A1 x.v.l.length c1)) (fun e => hXY e)
    have a2 := a.fr (((Fr.refl (· = Y) w4).set1 0 (.slice A1 x.v.l.length c1)).set1 1 (.slice A2 x.o.l.length c2)) (fun e => hXY e)
    have a3 := a.fr ((((Fr.refl (· = Y) w4).set1 0 (.slice A1 x.v.l.length c1)).set1 1 (.slice A2 x.o.l.length c2)).set1 2 (.slice A3 x.l.l.length c3)) (fun e => hXY e)
    have a4 := a.fr (((((Fr.refl (· = Y) w4).set1 0 (.slice A1 x.v.l.length c1)).set1 1 (.slice A2 x.o.l.length c2)).set1 2 (.slice A3 x.l.l.length c3)).set1 3 (.slice A4 x.w.l.length c4)) (fun e => hXY e)
    exact ⟨⟨by simpa using a1.cell 0, by simpa using a1.cell 1, by simpa using a1.cell 2, by simpa using a1.cell 3⟩, ⟨by simpa using a2.cell 0, by simpa using a2.cell 1, by simpa using a2.cell 2, by simpa using a2.cell 3⟩, ⟨by simpa using a3.cell 0, by simpa using a3.cell 1, by simpa using a3.cell 2, by simpa using a3.cell 3⟩, ⟨by simpa using a4.cell 0, by simpa using a4.cell 1, by simpa using a4.cell 2, by simpa using a4.cell 3⟩⟩
  clear hX hY hW0 hW1 hz0 x0 hS zv zo zl zw
  go_enter Tryz.func76, Tryz.ntmps76
  go_upto_region 1 with (fail)
  rw [← HY.out, ← HX.out, ← HW0.out, ← HW1.out]
  go_region_held3 (fun w' => w'.cell? ⟨X, 0, none⟩ = some x.v.v ∧ w'.cell? ⟨X, 1, none⟩ = some x.o.v ∧ w'.cell? ⟨X, 2, none⟩ = some x.l.v ∧ w'.cell? ⟨X, 3, none⟩ = some x.w.v) (first | (with_reducible exact HS.out _ Q0) | (with_reducible exact s1) | (with_reducible exact s2) | (with_reducible exact s3) | (with_reducible exact s4) | (with_reducible exact s5.1) | (with_reducible exact s5.2.1) | (with_reducible exact s5.2.2.1) | (with_reducible exact s5.2.2.2) | fail)
    ((first | (go_at_call 151; refine (HWW.out w3 Q3).mono ?_; rintro e w4 ⟨A4, c4, rfl, o4, q4⟩; have Q4 := Q3.tr q4; have s4 := HS.out w4 Q4; have s5 : _ := holdc w1 w2 w3 w4 A1 A2 A3 A4 c1 c2 c3 c4 Q4; have yb := y1.fr Q4 (fun h => h); have yc0 : w4.cell? ⟨Y, 0, none⟩ = some (.slice none 0 0) := (by simpa using yb.cell 0); have yc1 : w4.cell? ⟨Y, 1, none⟩ = some (.slice none 0 0) := (by simpa using yb.cell 1); have yc2 : w4.cell? ⟨Y, 2, none⟩ = some (.slice none 0 0) := (by simpa using yb.cell 2); have yc3 : w4.cell? ⟨Y, 3, none⟩ = some (.slice none 0 0) := (by simpa using yb.cell 3); have yf0 := yb.frozen 0; have yf1 := yb.frozen 1; have yf2 := yb.frozen 2; have yf3 := yb.frozen 3) | (go_at_call 151; refine (HL.out w2 Q2).mono ?_; rintro e w3 ⟨A3, c3, rfl, o3, q3⟩; have Q3 := Q2.tr q3; have s3 := HS.out w3 Q3) | (go_at_call 151; refine (HO.out w1 Qa).mono ?_; rintro e w2 ⟨A2, c2, rfl, o2, q2⟩; have Q2 := Qa.tr q2; have s2 := HS.out w2 Q2) | (go_at_call 151; refine (HV.out _ Q0).mono ?_; rintro e w1 ⟨A1, c1, rfl, o1, q1⟩; have Qa := Q0.tr q1; have s1 := HS.out w1 Qa)))
  have yz := (((yb.set_ 0 (.slice A1 x.v.l.length c1)).set_ 1 (.slice A2 x.o.l.length c2)).set_ 2 (.slice A3 x.l.l.length c3)).set_ 3 (.slice A4 x.w.l.length c4)
  have hYlt := y1.lt
  have f0 : Fr (· = Y) w4 ((((w4.setCell ⟨Y, 0, none⟩ (.slice A1 x.v.l.length c1)).setCell ⟨Y, 1, none⟩ (.slice A2 x.o.l.length c2)).setCell ⟨Y, 2, none⟩ (.slice A3 x.l.l.length c3)).setCell ⟨Y, 3, none⟩ (.slice A4 x.w.l.length c4)) := ((((Fr.refl (· = Y) w4).set1 _ _).set1 _ _).set1 _ _).set1 _ _
  have hb1 : W1.heap.size ≤ w1.heap.size := Qa.size
  have hb2 := Q2.size
  have hb3 := Q3.size
  have hpw := pw.size
  have l1 := o1.lt
  have l2 := o2.lt
  have l3 := o3.lt
  have b2 := o2.base
  have b3 := o3.base
  have b4 := o4.base
  have g1 : LsOwn W1 w4 3 1 intsC ⟨A1, c1, x.v.l⟩ := ((o1.from_ (Q0.size)).nw q2).nw (q3.tr q4)
  have g2 : LsOwn W1 w4 3 1 intsC ⟨A2, c2, x.o.l⟩ := ((o2.from_ hb1).nw q3).nw q4
  have g3 : LsOwn W1 w4 3 1 intsC ⟨A3, c3, x.l.l⟩ := (o3.from_ hb2).nw q4
  have g4 : LsOwn W1 w4 3 1 intsC ⟨A4, c4, x.w.l⟩ := o4.from_ hb3
  have hco : CfgOwn W1 w4 ⟨⟨A1, c1, x.v.l⟩, ⟨A2, c2, x.o.l⟩, ⟨A3, c3, x.l.l⟩, ⟨A4, c4, x.w.l⟩⟩ := ⟨g1, g2, g3, g4,
    fun k j h1 h2 => Nat.lt_of_lt_of_le (l1 k h1) (b2 j h2), fun k j h1 h2 => Nat.lt_of_lt_of_le (l2 k h1) (b3 j h2), fun k j h1 h2 => Nat.lt_of_lt_of_le (l3 k h1) (b4 j h2),
    fun k j h1 h2 => Nat.lt_of_lt_of_le (l1 k h1) (Nat.le_trans q2.size (b3 j h2)), fun k j h1 h2 => Nat.lt_of_lt_of_le (l1 k h1) (Nat.le_trans (q2.tr q3).size (b4 j h2)), fun k j h1 h2 => Nat.lt_of_lt_of_le (l2 k h1) (Nat.le_trans q3.size (b4 j h2))⟩
  go_wp2_with fail
  refine bodyPost_ret (v := .agg #[.slice A1 x.v.l.length c1, .slice A2 x.o.l.length c2, .slice A3 x.l.l.length c3, .slice A4 x.w.l.length c4]) ?_ rfl ?_
  · exact results_cell_row rfl _ _ Y 45 _ (0, 0) _ rfl yz Tryz.underlying45 rfl (by kernel_rfl)
  exact ⟨⟨⟨A1, c1, x.v.l⟩, ⟨A2, c2, x.o.l⟩, ⟨A3, c3, x.l.l⟩, ⟨A4, c4, x.w.l⟩⟩, rfl, ⟨rfl, rfl, rfl, rfl⟩, ((hco.fr f0 (fun k hk e => by omega)).from_ hpw), (pw.tr Q4).new f0 (fun b hb => by omega)⟩
end Go.Proofs.YtippdjaakcgeoaaGreat

namespace Go.Proofs.YtippdjaakcgeoaaGreat
open Go Go.RowKit

theorem quiet_load_cells {P : Program} {ops : Array Oper} {C : World → Prop} {L : Act → Prop} {rest : List Oper} {o : Oper} {a : Act} (hw : Region.wanted o (yielded ops a.tmps) = true) (ty : TypeId) (x : Operand) (ho : o.op = .load ty x)
    (g off : Nat) (hx : a.eval x = .pointer (some ⟨g, off, none⟩)) (cs : List Value) (d : TypeDesc) (hc : ∀ w, C w → ∀ j v, cs[j]? = some v → w.cell? ⟨g, off + j, none⟩ = some v)
    (hu : P.underlying ty = some d) (hd : (match d with | .struct _ | .array _ _ => true | _ => false) = true) (hi : (P.info? ty).map (·.size) = some cs.length)
    (h : wpQuiet P ops C L rest (a.put o.dst (.agg cs.toArray))) : wpQuiet P ops C L (o :: rest) a := by
  unfold wpQuiet
  rw [if_pos hw]
  refine ⟨.agg cs.toArray, fun w hC => ?_, h⟩
  unfold Oper.quietAt execOp
  simp only [ho, hx, Instr.loadAt, Instr.sureAddr, Sem.run_bind, Sem.run_pure, Result.andThen_ok, run_loadVar_cells w g off ty cs d (hc w hC) hu hd hi]
  exact ⟨rfl, rfl⟩
/-- Cells that stand as they stood. -/
theorem Later.cells {w : World} {g off : Nat} {cs : List Value} (h : ∀ j v, cs[j]? = some v → w.cell? ⟨g, off + j, none⟩ = some v) : ∀ w', (∃ n : Later w, w' = n.at_) → ∀ j v, cs[j]? = some v → w'.cell? ⟨g, off + j, none⟩ = some v := by
  rintro w' ⟨n, rfl⟩ j v hv
  exact n.cell (h j v hv)
/-- A struct's cells loaded behind a guard that says yes. -/
theorem wl_cells_want {P : Program} {w : World} {ops : Array Oper} {rest : List Oper} {o : Oper} {a : Act} {Q : Exit → Act → World → Prop} (hw : Region.wanted o (yielded ops a.tmps) = true) (ty : TypeId) (x : Operand) (ho : o.op = .load ty x)
    (g off : Nat) (hx : a.eval x = .pointer (some ⟨g, off, none⟩)) (cs : List Value) (d : TypeDesc) (hc : ∀ j v, cs[j]? = some v → w.cell? ⟨g, off + j, none⟩ = some v) (hu : P.underlying ty = some d) (hd : (match d with | .struct _ | .array _ _ => true | _ => false) = true) (hi : (P.info? ty).map (·.size) = some cs.length)
    (h : wpList P ops Q rest (a.put o.dst (.agg cs.toArray)) w) : wpList P ops Q (o :: rest) a w := by
  refine BigFrame.wpList_want hw fun K hK => ?_
  exact wp_load_cells ty x ho g off hx cs d hc hu hd hi (hK _ _ h)
end Go.Proofs.YtippdjaakcgeoaaGreat
