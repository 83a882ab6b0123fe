/- Lemmas of the walks: CpA, CpB, CpC. (Laid together by shake.py.) -/
import Derived.Deep.DeepCutAuto
import Derived.Test.YtippdjaakcgeoaaGreatNe01
import Derived.Test.YtippdjaakcgeoaaGreatNe02
set_option linter.unusedVariables false
set_option linter.unusedSimpArgs false
namespace Go.Proofs.YtippdjaakcgeoaaGreat
open Go Go.RowKit
set_option linter.unusedVariables false
set_option linter.unusedSimpArgs false
theorem info_int : (Tryz.prog.info? 3).map (fun i => (i.zero, i.size, i.bytes)) = some (some (.int .i64 0), 1, 8) := by kernel_rfl
/-- Blocks made since w. -/
abbrev Since (w : World) (k : Nat) : Prop := w.heap.size ≤ k
theorem copy_ints (w : World) (F : Nat → Prop) (A : Option Addr) (c : Nat) (xs : List Int) (h : Sl w F A (intsC xs)) (hsz : xs.length ≤ 1000000000000) :
    Calls Tryz.prog 223 #[.slice A xs.length c] w fun e w' => ∃ A' c', e = .returned (.slice A' xs.length c') ∧ Own w' 3 1 A' xs.length c' (intsC xs) ∧ Nw w w' ∧ ∀ k, inA A' k → w.heap.size ≤ k := by
  go_enter Tryz.func223, Tryz.ntmps223
  go_wp2_with (at_builtin; refine wl_append rfl _ _ _ rfl 8 (.int .i64 0) Tryz.underlying41 info_int rfl (by decide) rfl (Own.nil _ _ _) rfl h (by simp [intsC]) (intsC_cell xs) (by omega) (by unfold maxLen; omega) ?_; intro A' cap' w1 ho hf hin)
  go_ret
  simp only [Nat.zero_add, List.nil_append] at ho
  refine ⟨A', cap', rfl, ho, hf.mono fun k hk => (inA_none _ hk).elim, fun k hk => ?_⟩
  rcases hin k hk with h | h
  · exact (inA_none _ h).elim
  · rw [h]; exact Nat.le_refl _
theorem Own.ls {α : Type} {w w0 : World} {E : TypeId} {z n c : Nat} {A : Option Addr} {f : List α → List Value} {l : List α} (h : Own w E z A n c (f l)) (hn : l.length = n) (hA : ∀ k, inA A k → w0.heap.size ≤ k) : LsIn w (Since w0) f ⟨A, c, l⟩ :=
  ⟨h.sl.mono fun k hk _ => hA k hk, by show l.length ≤ c; rw [hn]; exact h.cap_le.1, h.cap_le.2⟩
set_option maxRecDepth 100000 in
set_option maxHeartbeats 4000000 in
theorem copy_cfg (w : World) (F : Nat → Prop) (x : CfgM) (hx : CfgIn w F x) (hz : CfgSz x) :
    Calls Tryz.prog 201 #[.agg (cfgA x)] w fun e w' => ∃ y : CfgM, e = .returned (.agg (cfgA y)) ∧ y.x = x.x ∧ CfgIn w' (Since w) y ∧ Nw w w' := by
  obtain ⟨X, hX⟩ : ∃ X, X = w.heap.size := ⟨_, rfl⟩
  obtain ⟨Y, hY⟩ : ∃ Y, Y = w.heap.size + 1 := ⟨_, rfl⟩
  obtain ⟨W0, hW0⟩ : ∃ W, W = w.alloc (.cells #[.slice x.v.a x.v.l.length x.v.c, .slice x.o.a x.o.l.length x.o.c, .slice x.l.a x.l.l.length x.l.c, .slice x.w.a x.w.l.length x.w.c] 45) := ⟨_, rfl⟩
  have p0 : Nw w W0 := by rw [hW0]; exact (Fr.refl (fun _ => False) _).alloc _
  have x0 : Blk W0 X 45 #[.slice x.v.a x.v.l.length x.v.c, .slice x.o.a x.o.l.length x.o.c, .slice x.l.a x.l.l.length x.l.c, .slice x.w.a x.w.l.length x.w.c] := by rw [hW0, hX]; exact Blk.new _ _ _
  have hz0 : W0.heap.size = Y := by rw [hW0, hY]; simp
  obtain ⟨W1, hW1⟩ : ∃ W, W = W0.alloc (.cells #[.slice none 0 0, .slice none 0 0, .slice none 0 0, .slice none 0 0] 45) := ⟨_, rfl⟩
  have p1 : Nw W0 W1 := by rw [hW1]; exact (Fr.refl (fun _ => False) _).alloc _
  have y1 : Blk W1 Y 45 #[.slice none 0 0, .slice none 0 0, .slice none 0 0, .slice none 0 0] := by rw [hW1, ← hz0]; exact Blk.new _ _ _
  have x1 := x0.fr p1 (fun h => h)
  have Q1 : Nw w W1 := p0.tr p1
  have hXw : w.heap.size ≤ X := by omega
  have hYw : w.heap.size ≤ Y := by omega
  have hXY : X ≠ Y := by omega
  have hXS : ∀ b, Since W1 b → ¬ b = X := fun b hb he => by have := x1.lt; unfold Since at hb; omega
  have hYS : ∀ b, Since W1 b → ¬ b = Y := fun b hb he => by have := y1.lt; unfold Since at hb; omega
  have hS1 : W1.heap.size ≤ W1.heap.size := Nat.le_refl _
  have hSw := Q1.size
  have HX := Lib.hid hX
  have HY := Lib.hid hY
  have HW0 := Lib.hid hW0
  have HW1 := Lib.hid hW1
  have HZ0 := Lib.hid hz0
  clear hX hY hW0 hW1 hz0 x0
  go_enter Tryz.func201, Tryz.ntmps201
  go_upto_region 1 with (fail)
  rw [← HY.out, ← HX.out, ← HW0.out, ← HW1.out]
  have l2 : W1.cell? ⟨X, 0, none⟩ = some (.slice x.v.a x.v.l.length x.v.c) := by simpa using x1.cell 0
  go_wp2_with fail
  refine (copy_ints _ F _ _ _ ((hx.v.nw Q1).sl) (by have := hz.v; omega)).mono ?_
  rintro e v2 ⟨A1, c1, rfl, w1, q2, b1⟩
  have Qv2 : Nw w v2 := Q1.tr q2
  have xv2 := x1.fr q2 (fun h => h)
  have yv2 := y1.fr q2 (fun h => h)
  have f2 := xv2.frozen 0
  have g2 : v2.cell? ⟨X, 0, none⟩ = some (.slice x.v.a x.v.l.length x.v.c) := by simpa using xv2.cell 0
  obtain ⟨W2, hW2⟩ : ∃ W, W = v2.setCell ⟨X, 0, none⟩ (.slice A1 x.v.l.length c1) := ⟨_, rfl⟩
  have x2 : Blk W2 X 45 #[.slice A1 x.v.l.length c1, .slice x.o.a x.o.l.length x.o.c, .slice x.l.a x.l.l.length x.l.c, .slice x.w.a x.w.l.length x.w.c] := by rw [hW2]; exact xv2.set_ 0 _
  have m2 : Fr (· = X) v2 W2 := by rw [hW2]; exact (Fr.refl (· = X) _).set1 _ _
  have y2 := yv2.fr m2 (fun h => hXY h.symm)
  have Q2 : Nw w W2 := Qv2.new m2 (fun b hb => by omega)
  have n1 := (w1.ls (w0 := W1) (l := x.v.l) rfl (fun k hk => Nat.le_trans hS1 (b1 k hk))).fr m2 hXS
  have hS2 : W1.heap.size ≤ W2.heap.size := Nat.le_trans (Nat.le_trans hS1 q2.size) m2.size
  have HW2 := Lib.hid hW2
  clear hW2 l2
  go_upto_region 2 with (fail)
  rw [← HW2.out]
  clear f2 g2
  have l3 : W2.cell? ⟨X, 1, none⟩ = some (.slice x.o.a x.o.l.length x.o.c) := by simpa using x2.cell 1
  go_wp2_with fail
  refine (copy_ints _ F _ _ _ ((hx.o.nw Q2).sl) (by have := hz.o; omega)).mono ?_
  rintro e v3 ⟨A2, c2, rfl, w2, q3, b2⟩
  have Qv3 : Nw w v3 := Q2.tr q3
  have xv3 := x2.fr q3 (fun h => h)
  have yv3 := y2.fr q3 (fun h => h)
  have f3 := xv3.frozen 1
  have g3 : v3.cell? ⟨X, 1, none⟩ = some (.slice x.o.a x.o.l.length x.o.c) := by simpa using xv3.cell 1
  obtain ⟨W3, hW3⟩ : ∃ W, W = v3.setCell ⟨X, 1, none⟩ (.slice A2 x.o.l.length c2) := ⟨_, rfl⟩
  have x3 : Blk W3 X 45 #[.slice A1 x.v.l.length c1, .slice A2 x.o.l.length c2, .slice x.l.a x.l.l.length x.l.c, .slice x.w.a x.w.l.length x.w.c] := by rw [hW3]; exact xv3.set_ 1 _
  have m3 : Fr (· = X) v3 W3 := by rw [hW3]; exact (Fr.refl (· = X) _).set1 _ _
  have y3 := yv3.fr m3 (fun h => hXY h.symm)
  have Q3 : Nw w W3 := Qv3.new m3 (fun b hb => by omega)
  have n1 := (n1.nw q3).fr m3 hXS
  have n2 := (w2.ls (w0 := W1) (l := x.o.l) rfl (fun k hk => Nat.le_trans hS2 (b2 k hk))).fr m3 hXS
  have hS3 : W1.heap.size ≤ W3.heap.size := Nat.le_trans (Nat.le_trans hS2 q3.size) m3.size
  have HW3 := Lib.hid hW3
  clear hW3 l3
  go_upto_region 3 with (fail)
  rw [← HW3.out]
  clear f3 g3
  have l4 : W3.cell? ⟨X, 2, none⟩ = some (.slice x.l.a x.l.l.length x.l.c) := by simpa using x3.cell 2
  go_wp2_with fail
  refine (copy_ints _ F _ _ _ ((hx.l.nw Q3).sl) (by have := hz.l; omega)).mono ?_
  rintro e v4 ⟨A3, c3, rfl, w3, q4, b3⟩
  have Qv4 : Nw w v4 := Q3.tr q4
  have xv4 := x3.fr q4 (fun h => h)
  have yv4 := y3.fr q4 (fun h => h)
  have f4 := xv4.frozen 2
  have g4 : v4.cell? ⟨X, 2, none⟩ = some (.slice x.l.a x.l.l.length x.l.c) := by simpa using xv4.cell 2
  obtain ⟨W4, hW4⟩ : ∃ W, W = v4.setCell ⟨X, 2, none⟩ (.slice A3 x.l.l.length c3) := ⟨_, rfl⟩
  have x4 : Blk W4 X 45 #[.slice A1 x.v.l.length c1, .slice A2 x.o.l.length c2, .slice A3 x.l.l.length c3, .slice x.w.a x.w.l.length x.w.c] := by rw [hW4]; exact xv4.set_ 2 _
  have m4 : Fr (· = X) v4 W4 := by rw [hW4]; exact (Fr.refl (· = X) _).set1 _ _
  have y4 := yv4.fr m4 (fun h => hXY h.symm)
  have Q4 : Nw w W4 := Qv4.new m4 (fun b hb => by omega)
  have n1 := (n1.nw q4).fr m4 hXS
  have n2 := (n2.nw q4).fr m4 hXS
  have n3 := (w3.ls (w0 := W1) (l := x.l.l) rfl (fun k hk => Nat.le_trans hS3 (b3 k hk))).fr m4 hXS
  have hS4 : W1.heap.size ≤ W4.heap.size := Nat.le_trans (Nat.le_trans hS3 q4.size) m4.size
  have HW4 := Lib.hid hW4
  clear hW4 l4
  go_upto_region 4 with (fail)
  rw [← HW4.out]
  clear f4 g4
  have l5 : W4.cell? ⟨X, 3, none⟩ = some (.slice x.w.a x.w.l.length x.w.c) := by simpa using x4.cell 3
  go_wp2_with fail
  refine (copy_ints _ F _ _ _ ((hx.w.nw Q4).sl) (by have := hz.w; omega)).mono ?_
  rintro e v5 ⟨A4, c4, rfl, w4, q5, b4⟩
  have Qv5 : Nw w v5 := Q4.tr q5
  have xv5 := x4.fr q5 (fun h => h)
  have yv5 := y4.fr q5 (fun h => h)
  have f5 := xv5.frozen 3
  have g5 : v5.cell? ⟨X, 3, none⟩ = some (.slice x.w.a x.w.l.length x.w.c) := by simpa using xv5.cell 3
  obtain ⟨W5, hW5⟩ : ∃ W, W = v5.setCell ⟨X, 3, none⟩ (.slice A4 x.w.l.length c4) := ⟨_, rfl⟩
  have x5 : Blk W5 X 45 #[.slice A1 x.v.l.length c1, .slice A2 x.o.l.length c2, .slice A3 x.l.l.length c3, .slice A4 x.w.l.length c4] := by rw [hW5]; exact xv5.set_ 3 _
  have m5 : Fr (· = X) v5 W5 := by rw [hW5]; exact (Fr.refl (· = X) _).set1 _ _
  have y5 := yv5.fr m5 (fun h => hXY h.symm)
  have Q5 : Nw w W5 := Qv5.new m5 (fun b hb => by omega)
  have n1 := (n1.nw q5).fr m5 hXS
  have n2 := (n2.nw q5).fr m5 hXS
  have n3 := (n3.nw q5).fr m5 hXS
  have n4 := (w4.ls (w0 := W1) (l := x.w.l) rfl (fun k hk => Nat.le_trans hS4 (b4 k hk))).fr m5 hXS
  have hS5 : W1.heap.size ≤ W5.heap.size := Nat.le_trans (Nat.le_trans hS4 q5.size) m5.size
  have HW5 := Lib.hid hW5
  clear hW5 l5
  go_upto_region 5 with (fail)
  rw [← HW5.out]
  clear f5 g5
  have lz : ∀ p u, ([.slice A1 x.v.l.length c1, .slice A2 x.o.l.length c2, .slice A3 x.l.l.length c3, .slice A4 x.w.l.length c4] : List Value)[p]? = some u → W5.cell? ⟨X, 0 + p, none⟩ = some u := Blk.cells_in x5 0 4
  have hz := Blk.there (l := [.slice none 0 0, .slice none 0 0, .slice none 0 0, .slice none 0 0]) y5 0 4 (by show 0 + 4 ≤ 4; omega)
  have oz : (#[.slice A1 x.v.l.length c1, .slice A2 x.o.l.length c2, .slice A3 x.l.l.length c3, .slice A4 x.w.l.length c4] : Array Value).all (·.oneCell') = true := by rw [List.all_toArray]; simp only [List.all_cons, List.all_nil]; rfl
  obtain ⟨WZ, hWZ⟩ : ∃ W, W = W5.setCells Y 0 [.slice A1 x.v.l.length c1, .slice A2 x.o.l.length c2, .slice A3 x.l.l.length c3, .slice A4 x.w.l.length c4] := ⟨_, rfl⟩
  have yz : Blk WZ Y 45 #[.slice A1 x.v.l.length c1, .slice A2 x.o.l.length c2, .slice A3 x.l.l.length c3, .slice A4 x.w.l.length c4] := by rw [hWZ]; exact Blk.setCells (l := [.slice none 0 0, .slice none 0 0, .slice none 0 0, .slice none 0 0]) y5 0 [.slice A1 x.v.l.length c1, .slice A2 x.o.l.length c2, .slice A3 x.l.l.length c3, .slice A4 x.w.l.length c4]
  have mz : Fr (· = Y) W5 WZ := by rw [hWZ]; exact (Fr.refl (· = Y) _).setCells _ _
  have QZ : Nw w WZ := Q5.new mz (fun b hb => by omega)
  have HWZ := Lib.hid hWZ
  clear hWZ
  have n1 := (n1.fr mz hYS).mono (F' := Since w) (fun k hk _ => Nat.le_trans hSw hk)
  have n2 := (n2.fr mz hYS).mono (F' := Since w) (fun k hk _ => Nat.le_trans hSw hk)
  have n3 := (n3.fr mz hYS).mono (F' := Since w) (fun k hk _ => Nat.le_trans hSw hk)
  have n4 := (n4.fr mz hYS).mono (F' := Since w) (fun k hk _ => Nat.le_trans hSw hk)
  go_wp2_with (first | (refine wl_load_cells rfl 45 _ rfl X 0 rfl [.slice A1 x.v.l.length c1, .slice A2 x.o.l.length c2, .slice A3 x.l.l.length c3, .slice A4 x.w.l.length c4] _ lz Tryz.underlying45 rfl (by kernel_rfl) ?_) | (refine wpList_store_mid rfl 45 _ _ rfl Y 0 #[.slice A1 x.v.l.length c1, .slice A2 x.o.l.length c2, .slice A3 x.l.l.length c3, .slice A4 x.w.l.length c4] rfl rfl hz (by kernel_rfl) oz ?_; rw [← HWZ.out]))
  refine bodyPost_ret (v := .agg #[.slice A1 x.v.l.length c1, .slice A2 x.o.l.length c2, .slice A3 x.l.l.length c3, .slice A4 x.w.l.length c4]) ?_ rfl ?_
  · exact results_cell_row rfl _ _ Y 45 _ (0, 0) _ rfl yz Tryz.underlying45 rfl (by kernel_rfl)
  exact ⟨⟨⟨A1, c1, x.v.l⟩, ⟨A2, c2, x.o.l⟩, ⟨A3, c3, x.l.l⟩, ⟨A4, c4, x.w.l⟩⟩, rfl, rfl, ⟨n1, n2, n3, n4⟩, QZ⟩
set_option maxRecDepth 100000 in
set_option maxHeartbeats 4000000 in
theorem copy_ent (w : World) (F : Nat → Prop) (x : EntM) (hx : EntIn w F x) (hz : EntSz x) :
    Calls Tryz.prog 200 #[.agg (entA x)] w fun e w' => ∃ y : EntM, e = .returned (.agg (entA y)) ∧ y.x = x.x ∧ EntIn w' (Since w) y ∧ Nw w w' := by
  obtain ⟨X, hX⟩ : ∃ X, X = w.heap.size := ⟨_, rfl⟩
  obtain ⟨Y, hY⟩ : ∃ Y, Y = w.heap.size + 1 := ⟨_, rfl⟩
  obtain ⟨W0, hW0⟩ : ∃ W, W = w.alloc (.cells #[I64 x.term, U8V x.kind, .slice x.cmd.a x.cmd.l.length x.cmd.c, .slice x.cfg.v.a x.cfg.v.l.length x.cfg.v.c, .slice x.cfg.o.a x.cfg.o.l.length x.cfg.o.c, .slice x.cfg.l.a x.cfg.l.l.length x.cfg.l.c, .slice x.cfg.w.a x.cfg.w.l.length x.cfg.w.c] 87) := ⟨_, rfl⟩
  have p0 : Nw w W0 := by rw [hW0]; exact (Fr.refl (fun _ => False) _).alloc _
  have x0 : Blk W0 X 87 #[I64 x.term, U8V x.kind, .slice x.cmd.a x.cmd.l.length x.cmd.c, .slice x.cfg.v.a x.cfg.v.l.length x.cfg.v.c, .slice x.cfg.o.a x.cfg.o.l.length x.cfg.o.c, .slice x.cfg.l.a x.cfg.l.l.length x.cfg.l.c, .slice x.cfg.w.a x.cfg.w.l.length x.cfg.w.c] := by rw [hW0, hX]; exact Blk.new _ _ _
  have hz0 : W0.heap.size = Y := by rw [hW0, hY]; simp
  obtain ⟨W1, hW1⟩ : ∃ W, W = W0.alloc (.cells #[I64 0, U8V 0, .slice none 0 0, .slice none 0 0, .slice none 0 0, .slice none 0 0, .slice none 0 0] 87) := ⟨_, rfl⟩
  have p1 : Nw W0 W1 := by rw [hW1]; exact (Fr.refl (fun _ => False) _).alloc _
  have y1 : Blk W1 Y 87 #[I64 0, U8V 0, .slice none 0 0, .slice none 0 0, .slice none 0 0, .slice none 0 0, .slice none 0 0] := by rw [hW1, ← hz0]; exact Blk.new _ _ _
  have x1 := x0.fr p1 (fun h => h)
  have Q1 : Nw w W1 := p0.tr p1
  have hXw : w.heap.size ≤ X := by omega
  have hYw : w.heap.size ≤ Y := by omega
  have hXY : X ≠ Y := by omega
  have hXS : ∀ b, Since W1 b → ¬ b = X := fun b hb he => by have := x1.lt; unfold Since at hb; omega
  have hYS : ∀ b, Since W1 b → ¬ b = Y := fun b hb he => by have := y1.lt; unfold Since at hb; omega
  have hS1 : W1.heap.size ≤ W1.heap.size := Nat.le_refl _
  have hSw := Q1.size
  have HX := Lib.hid hX
  have HY := Lib.hid hY
  have HW0 := Lib.hid hW0
  have HW1 := Lib.hid hW1
  have HZ0 := Lib.hid hz0
  clear hX hY hW0 hW1 hz0 x0
  go_enter Tryz.func200, Tryz.ntmps200
  go_upto_region 1 with (fail)
  rw [← HY.out, ← HX.out, ← HW0.out, ← HW1.out]
  have l2 : W1.cell? ⟨X, 2, none⟩ = some (.slice x.cmd.a x.cmd.l.length x.cmd.c) := by simpa using x1.cell 2
  go_wp2_with fail
  refine (copy_u8 _ F _ _ _ ((hx.cmd.nw Q1).sl) (by have := hz.cmd; omega)).mono ?_
  rintro e v2 ⟨A1, c1, rfl, w1, q2, b1⟩
  have Qv2 : Nw w v2 := Q1.tr q2
  have xv2 := x1.fr q2 (fun h => h)
  have yv2 := y1.fr q2 (fun h => h)
  have f2 := xv2.frozen 2
  have g2 : v2.cell? ⟨X, 2, none⟩ = some (.slice x.cmd.a x.cmd.l.length x.cmd.c) := by simpa using xv2.cell 2
  obtain ⟨W2, hW2⟩ : ∃ W, W = v2.setCell ⟨X, 2, none⟩ (.slice A1 x.cmd.l.length c1) := ⟨_, rfl⟩
  have x2 : Blk W2 X 87 #[I64 x.term, U8V x.kind, .slice A1 x.cmd.l.length c1, .slice x.cfg.v.a x.cfg.v.l.length x.cfg.v.c, .slice x.cfg.o.a x.cfg.o.l.length x.cfg.o.c, .slice x.cfg.l.a x.cfg.l.l.length x.cfg.l.c, .slice x.cfg.w.a x.cfg.w.l.length x.cfg.w.c] := by rw [hW2]; exact xv2.set_ 2 _
  have m2 : Fr (· = X) v2 W2 := by rw [hW2]; exact (Fr.refl (· = X) _).set1 _ _
  have y2 := yv2.fr m2 (fun h => hXY h.symm)
  have Q2 : Nw w W2 := Qv2.new m2 (fun b hb => by omega)
  have n1 := (w1.ls (w0 := W1) (l := x.cmd.l) rfl (fun k hk => Nat.le_trans hS1 (b1 k hk))).fr m2 hXS
  have hS2 : W1.heap.size ≤ W2.heap.size := Nat.le_trans (Nat.le_trans hS1 q2.size) m2.size
  have HW2 := Lib.hid hW2
  clear hW2 l2
  go_upto_region 2 with (fail)
  rw [← HW2.out]
  clear f2 g2
  have l3 : ∀ p u, ([.slice x.cfg.v.a x.cfg.v.l.length x.cfg.v.c, .slice x.cfg.o.a x.cfg.o.l.length x.cfg.o.c, .slice x.cfg.l.a x.cfg.l.l.length x.cfg.l.c, .slice x.cfg.w.a x.cfg.w.l.length x.cfg.w.c] : List Value)[p]? = some u → W2.cell? ⟨X, 3 + p, none⟩ = some u := Blk.cells_in x2 3 4
  go_wp2_with (refine wl_load_cells rfl 45 _ rfl X 3 rfl [.slice x.cfg.v.a x.cfg.v.l.length x.cfg.v.c, .slice x.cfg.o.a x.cfg.o.l.length x.cfg.o.c, .slice x.cfg.l.a x.cfg.l.l.length x.cfg.l.c, .slice x.cfg.w.a x.cfg.w.l.length x.cfg.w.c] _ l3 Tryz.underlying45 rfl (by kernel_rfl) ?_)
  refine (copy_cfg _ F x.cfg (hx.cfg.nw Q2) hz.cfg).mono ?_
  rintro e v3 ⟨g2, rfl, e2, w2, q3⟩
  have Qv3 : Nw w v3 := Q2.tr q3
  have xv3 := x2.fr q3 (fun h => h)
  have yv3 := y2.fr q3 (fun h => h)
  have h3 := Blk.there (l := [I64 x.term, U8V x.kind, .slice A1 x.cmd.l.length c1, .slice x.cfg.v.a x.cfg.v.l.length x.cfg.v.c, .slice x.cfg.o.a x.cfg.o.l.length x.cfg.o.c, .slice x.cfg.l.a x.cfg.l.l.length x.cfg.l.c, .slice x.cfg.w.a x.cfg.w.l.length x.cfg.w.c]) xv3 3 4 (by show 3 + 4 ≤ 7; omega)
  obtain ⟨W3, hW3⟩ : ∃ W, W = v3.setCells X 3 [.slice g2.v.a g2.v.l.length g2.v.c, .slice g2.o.a g2.o.l.length g2.o.c, .slice g2.l.a g2.l.l.length g2.l.c, .slice g2.w.a g2.w.l.length g2.w.c] := ⟨_, rfl⟩
  have x3 : Blk W3 X 87 #[I64 x.term, U8V x.kind, .slice A1 x.cmd.l.length c1, .slice g2.v.a g2.v.l.length g2.v.c, .slice g2.o.a g2.o.l.length g2.o.c, .slice g2.l.a g2.l.l.length g2.l.c, .slice g2.w.a g2.w.l.length g2.w.c] := by rw [hW3]; exact Blk.setCells (l := [I64 x.term, U8V x.kind, .slice A1 x.cmd.l.length c1, .slice x.cfg.v.a x.cfg.v.l.length x.cfg.v.c, .slice x.cfg.o.a x.cfg.o.l.length x.cfg.o.c, .slice x.cfg.l.a x.cfg.l.l.length x.cfg.l.c, .slice x.cfg.w.a x.cfg.w.l.length x.cfg.w.c]) xv3 3 [.slice g2.v.a g2.v.l.length g2.v.c, .slice g2.o.a g2.o.l.length g2.o.c, .slice g2.l.a g2.l.l.length g2.l.c, .slice g2.w.a g2.w.l.length g2.w.c]
  have m3 : Fr (· = X) v3 W3 := by rw [hW3]; exact (Fr.refl (· = X) _).setCells _ _
  have o3 : (#[.slice g2.v.a g2.v.l.length g2.v.c, .slice g2.o.a g2.o.l.length g2.o.c, .slice g2.l.a g2.l.l.length g2.l.c, .slice g2.w.a g2.w.l.length g2.w.c] : Array Value).all (·.oneCell') = true := by rw [List.all_toArray]; simp only [List.all_cons, List.all_nil]; rfl
  have y3 := yv3.fr m3 (fun h => hXY h.symm)
  have Q3 : Nw w W3 := Qv3.new m3 (fun b hb => by omega)
  have n1 := (n1.nw q3).fr m3 hXS
  have n2 := (w2.mono (F' := Since W1) (fun k hk _ => Nat.le_trans hS2 hk)).fr m3 hXS
  have hS3 : W1.heap.size ≤ W3.heap.size := Nat.le_trans (Nat.le_trans hS2 q3.size) m3.size
  have HW3 := Lib.hid hW3
  clear hW3 l3
  go_upto_region 3 with (refine wpList_store_mid rfl 45 _ _ rfl X 3 #[.slice g2.v.a g2.v.l.length g2.v.c, .slice g2.o.a g2.o.l.length g2.o.c, .slice g2.l.a g2.l.l.length g2.l.c, .slice g2.w.a g2.w.l.length g2.w.c] rfl rfl h3 (by kernel_rfl) o3 ?_)
  rw [← HW3.out]
  have lz : ∀ p u, ([I64 x.term, U8V x.kind, .slice A1 x.cmd.l.length c1, .slice g2.v.a g2.v.l.length g2.v.c, .slice g2.o.a g2.o.l.length g2.o.c, .slice g2.l.a g2.l.l.length g2.l.c, .slice g2.w.a g2.w.l.length g2.w.c] : List Value)[p]? = some u → W3.cell? ⟨X, 0 + p, none⟩ = some u := Blk.cells_in x3 0 7
  have hz := Blk.there (l := [I64 0, U8V 0, .slice none 0 0, .slice none 0 0, .slice none 0 0, .slice none 0 0, .slice none 0 0]) y3 0 7 (by show 0 + 7 ≤ 7; omega)
  have oz : (#[I64 x.term, U8V x.kind, .slice A1 x.cmd.l.length c1, .slice g2.v.a g2.v.l.length g2.v.c, .slice g2.o.a g2.o.l.length g2.o.c, .slice g2.l.a g2.l.l.length g2.l.c, .slice g2.w.a g2.w.l.length g2.w.c] : Array Value).all (·.oneCell') = true := by rw [List.all_toArray]; simp only [List.all_cons, List.all_nil]; rfl
  obtain ⟨WZ, hWZ⟩ : ∃ W, W = W3.setCells Y 0 [I64 x.term, U8V x.kind, .slice A1 x.cmd.l.length c1, .slice g2.v.a g2.v.l.length g2.v.c, .slice g2.o.a g2.o.l.length g2.o.c, .slice g2.l.a g2.l.l.length g2.l.c, .slice g2.w.a g2.w.l.length g2.w.c] := ⟨_, rfl⟩
  have yz : Blk WZ Y 87 #[I64 x.term, U8V x.kind, .slice A1 x.cmd.l.length c1, .slice g2.v.a g2.v.l.length g2.v.c, .slice g2.o.a g2.o.l.length g2.o.c, .slice g2.l.a g2.l.l.length g2.l.c, .slice g2.w.a g2.w.l.length g2.w.c] := by rw [hWZ]; exact Blk.setCells (l := [I64 0, U8V 0, .slice none 0 0, .slice none 0 0, .slice none 0 0, .slice none 0 0, .slice none 0 0]) y3 0 [I64 x.term, U8V x.kind, .slice A1 x.cmd.l.length c1, .slice g2.v.a g2.v.l.length g2.v.c, .slice g2.o.a g2.o.l.length g2.o.c, .slice g2.l.a g2.l.l.length g2.l.c, .slice g2.w.a g2.w.l.length g2.w.c]
  have mz : Fr (· = Y) W3 WZ := by rw [hWZ]; exact (Fr.refl (· = Y) _).setCells _ _
  have QZ : Nw w WZ := Q3.new mz (fun b hb => by omega)
  have HWZ := Lib.hid hWZ
  clear hWZ
  have n1 := (n1.fr mz hYS).mono (F' := Since w) (fun k hk _ => Nat.le_trans hSw hk)
  have n2 := (n2.fr mz hYS).mono (F' := Since w) (fun k hk _ => Nat.le_trans hSw hk)
  go_wp2_with (first | (refine wl_load_cells rfl 87 _ rfl X 0 rfl [I64 x.term, U8V x.kind, .slice A1 x.cmd.l.length c1, .slice g2.v.a g2.v.l.length g2.v.c, .slice g2.o.a g2.o.l.length g2.o.c, .slice g2.l.a g2.l.l.length g2.l.c, .slice g2.w.a g2.w.l.length g2.w.c] _ lz Tryz.underlying87 rfl (by kernel_rfl) ?_) | (refine wpList_store_mid rfl 87 _ _ rfl Y 0 #[I64 x.term, U8V x.kind, .slice A1 x.cmd.l.length c1, .slice g2.v.a g2.v.l.length g2.v.c, .slice g2.o.a g2.o.l.length g2.o.c, .slice g2.l.a g2.l.l.length g2.l.c, .slice g2.w.a g2.w.l.length g2.w.c] rfl rfl hz (by kernel_rfl) oz ?_; rw [← HWZ.out]))
  refine bodyPost_ret (v := .agg #[I64 x.term, U8V x.kind, .slice A1 x.cmd.l.length c1, .slice g2.v.a g2.v.l.length g2.v.c, .slice g2.o.a g2.o.l.length g2.o.c, .slice g2.l.a g2.l.l.length g2.l.c, .slice g2.w.a g2.w.l.length g2.w.c]) ?_ rfl ?_
  · exact results_cell_row rfl _ _ Y 87 _ (0, 0) _ rfl yz Tryz.underlying87 rfl (by kernel_rfl)
  exact ⟨⟨x.term, x.kind, ⟨A1, c1, x.cmd.l⟩, g2⟩, rfl, by show (⟨x.term, x.kind, x.cmd.l, g2.x⟩ : Ent) = _; rw [e2], ⟨hx.kind, n1, n2⟩, QZ⟩
set_option maxRecDepth 100000 in
set_option maxHeartbeats 4000000 in
theorem copy_bas (w : World) (F : Nat → Prop) (x : BasM) (hx : CfgIn w F x.cfg) (hz : CfgSz x.cfg) :
    Calls Tryz.prog 134 #[.agg (basA x)] w fun e w' => ∃ y : BasM, e = .returned (.agg (basA y)) ∧ y.x = x.x ∧ CfgIn w' (Since w) y.cfg ∧ Nw w w' := by
  obtain ⟨X, hX⟩ : ∃ X, X = w.heap.size := ⟨_, rfl⟩
  obtain ⟨Y, hY⟩ : ∃ Y, Y = w.heap.size + 1 := ⟨_, rfl⟩
  obtain ⟨W0, hW0⟩ : ∃ W, W = w.alloc (.cells #[I64 x.index, I64 x.term, .slice x.cfg.v.a x.cfg.v.l.length x.cfg.v.c, .slice x.cfg.o.a x.cfg.o.l.length x.cfg.o.c, .slice x.cfg.l.a x.cfg.l.l.length x.cfg.l.c, .slice x.cfg.w.a x.cfg.w.l.length x.cfg.w.c] 47) := ⟨_, rfl⟩
  have p0 : Nw w W0 := by rw [hW0]; exact (Fr.refl (fun _ => False) _).alloc _
  have x0 : Blk W0 X 47 #[I64 x.index, I64 x.term, .slice x.cfg.v.a x.cfg.v.l.length x.cfg.v.c, .slice x.cfg.o.a x.cfg.o.l.length x.cfg.o.c, .slice x.cfg.l.a x.cfg.l.l.length x.cfg.l.c, .slice x.cfg.w.a x.cfg.w.l.length x.cfg.w.c] := by rw [hW0, hX]; exact Blk.new _ _ _
  have hz0 : W0.heap.size = Y := by rw [hW0, hY]; simp
  obtain ⟨W1, hW1⟩ : ∃ W, W = W0.alloc (.cells #[I64 0, I64 0, .slice none 0 0, .slice none 0 0, .slice none 0 0, .slice none 0 0] 47) := ⟨_, rfl⟩
  have p1 : Nw W0 W1 := by rw [hW1]; exact (Fr.refl (fun _ => False) _).alloc _
  have y1 : Blk W1 Y 47 #[I64 0, I64 0, .slice none 0 0, .slice none 0 0, .slice none 0 0, .slice none 0 0] := by rw [hW1, ← hz0]; exact Blk.new _ _ _
  have x1 := x0.fr p1 (fun h => h)
  have Q1 : Nw w W1 := p0.tr p1
  have hXw : w.heap.size ≤ X := by omega
  have hYw : w.heap.size ≤ Y := by omega
  have hXY : X ≠ Y := by omega
  have hXS : ∀ b, Since W1 b → ¬ b = X := fun b hb he => by have := x1.lt; unfold Since at hb; omega
  have hYS : ∀ b, Since W1 b → ¬ b = Y := fun b hb he => by have := y1.lt; unfold Since at hb; omega
  have hS1 : W1.heap.size ≤ W1.heap.size := Nat.le_refl _
  have hSw := Q1.size
  have HX := Lib.hid hX
  have HY := Lib.hid hY
  have HW0 := Lib.hid hW0
  have HW1 := Lib.hid hW1
  have HZ0 := Lib.hid hz0
  clear hX hY hW0 hW1 hz0 x0
  go_enter Tryz.func134, Tryz.ntmps134
  go_upto_region 1 with (fail)
  rw [← HY.out, ← HX.out, ← HW0.out, ← HW1.out]
  have l2 : ∀ p u, ([.slice x.cfg.v.a x.cfg.v.l.length x.cfg.v.c, .slice x.cfg.o.a x.cfg.o.l.length x.cfg.o.c, .slice x.cfg.l.a x.cfg.l.l.length x.cfg.l.c, .slice x.cfg.w.a x.cfg.w.l.length x.cfg.w.c] : List Value)[p]? = some u → W1.cell? ⟨X, 2 + p, none⟩ = some u := Blk.cells_in x1 2 4
  go_wp2_with (refine wl_load_cells rfl 45 _ rfl X 2 rfl [.slice x.cfg.v.a x.cfg.v.l.length x.cfg.v.c, .slice x.cfg.o.a x.cfg.o.l.length x.cfg.o.c, .slice x.cfg.l.a x.cfg.l.l.length x.cfg.l.c, .slice x.cfg.w.a x.cfg.w.l.length x.cfg.w.c] _ l2 Tryz.underlying45 rfl (by kernel_rfl) ?_)
  refine (copy_cfg _ F x.cfg (hx.nw Q1) hz).mono ?_
  rintro e v2 ⟨g2, rfl, e2, w2, q2⟩
  have Qv2 : Nw w v2 := Q1.tr q2
  have xv2 := x1.fr q2 (fun h => h)
  have yv2 := y1.fr q2 (fun h => h)
  have h2 := Blk.there (l := [I64 x.index, I64 x.term, .slice x.cfg.v.a x.cfg.v.l.length x.cfg.v.c, .slice x.cfg.o.a x.cfg.o.l.length x.cfg.o.c, .slice x.cfg.l.a x.cfg.l.l.length x.cfg.l.c, .slice x.cfg.w.a x.cfg.w.l.length x.cfg.w.c]) xv2 2 4 (by show 2 + 4 ≤ 6; omega)
  obtain ⟨W2, hW2⟩ : ∃ W, W = v2.setCells X 2 [.slice g2.v.a g2.v.l.length g2.v.c, .slice g2.o.a g2.o.l.length g2.o.c, .slice g2.l.a g2.l.l.length g2.l.c, .slice g2.w.a g2.w.l.length g2.w.c] := ⟨_, rfl⟩
  have x2 : Blk W2 X 47 #[I64 x.index, I64 x.term, .slice g2.v.a g2.v.l.length g2.v.c, .slice g2.o.a g2.o.l.length g2.o.c, .slice g2.l.a g2.l.l.length g2.l.c, .slice g2.w.a g2.w.l.length g2.w.c] := by rw [hW2]; exact Blk.setCells (l := [I64 x.index, I64 x.term, .slice x.cfg.v.a x.cfg.v.l.length x.cfg.v.c, .slice x.cfg.o.a x.cfg.o.l.length x.cfg.o.c, .slice x.cfg.l.a x.cfg.l.l.length x.cfg.l.c, .slice x.cfg.w.a x.cfg.w.l.length x.cfg.w.c]) xv2 2 [.slice g2.v.a g2.v.l.length g2.v.c, .slice g2.o.a g2.o.l.length g2.o.c, .slice g2.l.a g2.l.l.length g2.l.c, .slice g2.w.a g2.w.l.length g2.w.c]
  have m2 : Fr (· = X) v2 W2 := by rw [hW2]; exact (Fr.refl (· = X) _).setCells _ _
  have o2 : (#[.slice g2.v.a g2.v.l.length g2.v.c, .slice g2.o.a g2.o.l.length g2.o.c, .slice g2.l.a g2.l.l.length g2.l.c, .slice g2.w.a g2.w.l.length g2.w.c] : Array Value).all (·.oneCell') = true := by rw [List.all_toArray]; simp only [List.all_cons, List.all_nil]; rfl
  have y2 := yv2.fr m2 (fun h => hXY h.symm)
  have Q2 : Nw w W2 := Qv2.new m2 (fun b hb => by omega)
  have n2 := (w2.mono (F' := Since W1) (fun k hk _ => Nat.le_trans hS1 hk)).fr m2 hXS
  have hS2 : W1.heap.size ≤ W2.heap.size := Nat.le_trans (Nat.le_trans hS1 q2.size) m2.size
  have HW2 := Lib.hid hW2
  clear hW2 l2
  go_upto_region 2 with (refine wpList_store_mid rfl 45 _ _ rfl X 2 #[.slice g2.v.a g2.v.l.length g2.v.c, .slice g2.o.a g2.o.l.length g2.o.c, .slice g2.l.a g2.l.l.length g2.l.c, .slice g2.w.a g2.w.l.length g2.w.c] rfl rfl h2 (by kernel_rfl) o2 ?_)
  rw [← HW2.out]
  have lz : ∀ p u, ([I64 x.index, I64 x.term, .slice g2.v.a g2.v.l.length g2.v.c, .slice g2.o.a g2.o.l.length g2.o.c, .slice g2.l.a g2.l.l.length g2.l.c, .slice g2.w.a g2.w.l.length g2.w.c] : List Value)[p]? = some u → W2.cell? ⟨X, 0 + p, none⟩ = some u := Blk.cells_in x2 0 6
  have hz := Blk.there (l := [I64 0, I64 0, .slice none 0 0, .slice none 0 0, .slice none 0 0, .slice none 0 0]) y2 0 6 (by show 0 + 6 ≤ 6; omega)
  have oz : (#[I64 x.index, I64 x.term, .slice g2.v.a g2.v.l.length g2.v.c, .slice g2.o.a g2.o.l.length g2.o.c, .slice g2.l.a g2.l.l.length g2.l.c, .slice g2.w.a g2.w.l.length g2.w.c] : Array Value).all (·.oneCell') = true := by rw [List.all_toArray]; simp only [List.all_cons, List.all_nil]; rfl
  obtain ⟨WZ, hWZ⟩ : ∃ W, W = W2.setCells Y 0 [I64 x.index, I64 x.term, .slice g2.v.a g2.v.l.length g2.v.c, .slice g2.o.a g2.o.l.length g2.o.c, .slice g2.l.a g2.l.l.length g2.l.c, .slice g2.w.a g2.w.l.length g2.w.c] := ⟨_, rfl⟩
  have yz : Blk WZ Y 47 #[I64 x.index, I64 x.term, .slice g2.v.a g2.v.l.length g2.v.c, .slice g2.o.a g2.o.l.length g2.o.c, .slice g2.l.a g2.l.l.length g2.l.c, .slice g2.w.a g2.w.l.length g2.w.c] := by rw [hWZ]; exact Blk.setCells (l := [I64 0, I64 0, .slice none 0 0, .slice none 0 0, .slice none 0 0, .slice none 0 0]) y2 0 [I64 x.index, I64 x.term, .slice g2.v.a g2.v.l.length g2.v.c, .slice g2.o.a g2.o.l.length g2.o.c, .slice g2.l.a g2.l.l.length g2.l.c, .slice g2.w.a g2.w.l.length g2.w.c]
  have mz : Fr (· = Y) W2 WZ := by rw [hWZ]; exact (Fr.refl (· = Y) _).setCells _ _
  have QZ : Nw w WZ := Q2.new mz (fun b hb => by omega)
  have HWZ := Lib.hid hWZ
  clear hWZ
  have n2 := (n2.fr mz hYS).mono (F' := Since w) (fun k hk _ => Nat.le_trans hSw hk)
  go_wp2_with (first | (refine wl_load_cells rfl 47 _ rfl X 0 rfl [I64 x.index, I64 x.term, .slice g2.v.a g2.v.l.length g2.v.c, .slice g2.o.a g2.o.l.length g2.o.c, .slice g2.l.a g2.l.l.length g2.l.c, .slice g2.w.a g2.w.l.length g2.w.c] _ lz Tryz.underlying47 rfl (by kernel_rfl) ?_) | (refine wpList_store_mid rfl 47 _ _ rfl Y 0 #[I64 x.index, I64 x.term, .slice g2.v.a g2.v.l.length g2.v.c, .slice g2.o.a g2.o.l.length g2.o.c, .slice g2.l.a g2.l.l.length g2.l.c, .slice g2.w.a g2.w.l.length g2.w.c] rfl rfl hz (by kernel_rfl) oz ?_; rw [← HWZ.out]))
  refine bodyPost_ret (v := .agg #[I64 x.index, I64 x.term, .slice g2.v.a g2.v.l.length g2.v.c, .slice g2.o.a g2.o.l.length g2.o.c, .slice g2.l.a g2.l.l.length g2.l.c, .slice g2.w.a g2.w.l.length g2.w.c]) ?_ rfl ?_
  · exact results_cell_row rfl _ _ Y 47 _ (0, 0) _ rfl yz Tryz.underlying47 rfl (by kernel_rfl)
  exact ⟨⟨x.index, x.term, g2⟩, rfl, by show (⟨x.index, x.term, g2.x⟩ : Bas) = _; rw [e2], n2, QZ⟩
end Go.Proofs.YtippdjaakcgeoaaGreat

namespace Go.Proofs.YtippdjaakcgeoaaGreat
open Go Go.RowKit
set_option linter.unusedVariables false
set_option linter.unusedSimpArgs false
theorem info_ent : (Tryz.prog.info? 87).map (fun i => (i.zero, i.size, i.bytes)) = some (some (.agg #[I64 0, U8V 0, .slice none 0 0, .slice none 0 0, .slice none 0 0, .slice none 0 0, .slice none 0 0]), 7, 136) := by kernel_rfl
def copy_entsR (w : World) (xs : List EntM) (v i : Value) (wr : World) : Prop :=
  ∃ (k : Nat) (ys : List EntM) (B : Option Addr) (c : Nat), k ≤ xs.length ∧ i = .int .i64 k ∧ v = .slice B k c ∧ ys.map EntM.x = (xs.take k).map EntM.x ∧ Own wr 87 7 B k c (entsC ys) ∧ (∀ y ∈ ys, EntIn wr (fun k => Since w k ∧ ¬ inA B k) y) ∧ Nw w wr ∧ ∀ j, inA B j → w.heap.size ≤ j
set_option maxRecDepth 100000 in
set_option maxHeartbeats 4000000 in
theorem copy_ents (w : World) (F : Nat → Prop) (A : Option Addr) (c : Nat) (xs : List EntM) (h : Sl w F A (entsC xs)) (e1 : ∀ e ∈ xs, EntIn w F e) (hz : ∀ e ∈ xs, EntSz e) (hsz : xs.length ≤ 1000000000) :
    Calls Tryz.prog 133 #[.slice A xs.length c] w fun e w' => ∃ A' c' ys, e = .returned (.slice A' xs.length c') ∧ ys.map EntM.x = xs.map EntM.x ∧ Own w' 87 7 A' xs.length c' (entsC ys) ∧ (∀ y ∈ ys, EntIn w' (Since w) y) ∧ Nw w w' ∧ ∀ k, inA A' k → w.heap.size ≤ k := by
  have HZ := Lib.hid hz
  have E1 := Lib.hid e1
  clear hz e1
  go_enter Tryz.func133, Tryz.ntmps133
  go_wp2_with fail
  go_loopw [3, 4] (fun v i wr => copy_entsR w xs v i wr) (fun _ i _ => xs.length - (intOf i).toNat)
  case atStart => exact ⟨0, [], none, 0, Nat.zero_le _, rfl, rfl, rfl, Own.nil _ _ _, (by intro y hy; cases hy), Fr.refl _ _, fun k hk => (inA_none k hk).elim⟩
  case round =>
    obtain ⟨k, ys, B, c2, hk, rfl, rfl, ht, ho, hys, hq, hB⟩ := hrel
    have HT := Lib.hid ht
    clear ht
    by_cases hlt : k < xs.length
    · obtain ⟨b, o, rfl, _, _, hc⟩ := (h.fr hq (fun _ _ h => h)).ent hlt
      have hi0 : (k : Int) < (xs.length : Int) := by omega
      have x1 := (E1.out _ (List.getElem_mem hlt)).nw hq
      have z1 := HZ.out _ (List.getElem_mem hlt)
      obtain ⟨x, hx⟩ : ∃ x, xs[k] = x := ⟨_, rfl⟩
      rw [hx] at x1 z1 hc
      have HX := Lib.hid hx
      have HYS := Lib.hid hys
      clear hx hys
      go_wp2_with (first | (refine wl_load_cells rfl 87 _ rfl b (o + k * 7) rfl _ _ hc Tryz.underlying87 rfl (by kernel_rfl) ?_) | (go_at_call 200; refine (copy_ent _ F x x1 z1).mono ?_; rintro e w1 ⟨y, rfl, ey, iy, q1⟩) | (at_builtin; refine wl_append2 rfl _ _ _ rfl 136 (.agg #[I64 0, U8V 0, .slice none 0 0, .slice none 0 0, .slice none 0 0, .slice none 0 0, .slice none 0 0]) Tryz.underlying43 info_ent rfl (by decide) rfl (((ho.fr q1 (fun _ _ h => h)).alloc _).alloc _) rfl (sl_new (w1.alloc (.cells #[I64 y.term, U8V y.kind, .slice y.cmd.a y.cmd.l.length y.cmd.c, .slice y.cfg.v.a y.cfg.v.l.length y.cfg.v.c, .slice y.cfg.o.a y.cfg.o.l.length y.cfg.o.c, .slice y.cfg.l.a y.cfg.l.l.length y.cfg.l.c, .slice y.cfg.w.a y.cfg.w.l.length y.cfg.w.c] 87)) 87 [I64 y.term, U8V y.kind, .slice y.cmd.a y.cmd.l.length y.cmd.c, .slice y.cfg.v.a y.cfg.v.l.length y.cfg.v.c, .slice y.cfg.o.a y.cfg.o.l.length y.cfg.o.c, .slice y.cfg.l.a y.cfg.l.l.length y.cfg.l.c, .slice y.cfg.w.a y.cfg.w.l.length y.cfg.w.c] _ (by simp)) rfl (entL_cell y) (by omega) (by unfold maxLen; omega) ?_; intro B' c' w2 hap))
      go_roundw
      case rel =>
        have qa : Nw w1 ((w1.alloc (.cells #[I64 y.term, U8V y.kind, .slice y.cmd.a y.cmd.l.length y.cmd.c, .slice y.cfg.v.a y.cfg.v.l.length y.cfg.v.c, .slice y.cfg.o.a y.cfg.o.l.length y.cfg.o.c, .slice y.cfg.l.a y.cfg.l.l.length y.cfg.l.c, .slice y.cfg.w.a y.cfg.w.l.length y.cfg.w.c] 87)).alloc (.cells #[I64 y.term, U8V y.kind, .slice y.cmd.a y.cmd.l.length y.cmd.c, .slice y.cfg.v.a y.cfg.v.l.length y.cfg.v.c, .slice y.cfg.o.a y.cfg.o.l.length y.cfg.o.c, .slice y.cfg.l.a y.cfg.l.l.length y.cfg.l.c, .slice y.cfg.w.a y.cfg.w.l.length y.cfg.w.c] 87)) := ((Fr.refl (fun _ => False) w1).alloc _).alloc _
        obtain ⟨o2, q2, n2⟩ := hap.newOwn (((hq.tr q1).alloc _).alloc _) hB
        have hfr := hap.fr
        have ho1 := ((ho.fr q1 (fun _ _ h => h)).alloc (.cells #[I64 y.term, U8V y.kind, .slice y.cmd.a y.cmd.l.length y.cmd.c, .slice y.cfg.v.a y.cfg.v.l.length y.cfg.v.c, .slice y.cfg.o.a y.cfg.o.l.length y.cfg.o.c, .slice y.cfg.l.a y.cfg.l.l.length y.cfg.l.c, .slice y.cfg.w.a y.cfg.w.l.length y.cfg.w.c] 87)).alloc (.cells #[I64 y.term, U8V y.kind, .slice y.cmd.a y.cmd.l.length y.cmd.c, .slice y.cfg.v.a y.cfg.v.l.length y.cfg.v.c, .slice y.cfg.o.a y.cfg.o.l.length y.cfg.o.c, .slice y.cfg.l.a y.cfg.l.l.length y.cfg.l.c, .slice y.cfg.w.a y.cfg.w.l.length y.cfg.w.c] 87)
        refine ⟨k + 1, ys ++ [y], B', c', by omega, by go_num, rfl, ?_, by rw [entsC_append, entsC_one]; exact o2, fun u hu => ?_, q2, n2⟩
        · rw [List.take_succ_eq_append_getElem hlt, List.map_append, List.map_append, HT.out, HX.out, List.map_singleton, List.map_singleton, ey]
        · have hin : ∀ j, inA B' j → inA B j ∨ j = ((w1.alloc (.cells #[I64 y.term, U8V y.kind, .slice y.cmd.a y.cmd.l.length y.cmd.c, .slice y.cfg.v.a y.cfg.v.l.length y.cfg.v.c, .slice y.cfg.o.a y.cfg.o.l.length y.cfg.o.c, .slice y.cfg.l.a y.cfg.l.l.length y.cfg.l.c, .slice y.cfg.w.a y.cfg.w.l.length y.cfg.w.c] 87)).alloc (.cells #[I64 y.term, U8V y.kind, .slice y.cmd.a y.cmd.l.length y.cmd.c, .slice y.cfg.v.a y.cfg.v.l.length y.cfg.v.c, .slice y.cfg.o.a y.cfg.o.l.length y.cfg.o.c, .slice y.cfg.l.a y.cfg.l.l.length y.cfg.l.c, .slice y.cfg.w.a y.cfg.w.l.length y.cfg.w.c] 87)).heap.size := hap.inA_
          have hBl : ∀ j, inA B j → j < wr.heap.size := ho.lt
          have hs1 := q1.size
          have hsa := qa.size
          rcases List.mem_append.1 hu with hu | hu
          · have i1 := ((HYS.out u hu).nw q1).nw qa
            refine (i1.mono (F' := fun k => (Since w k ∧ ¬ inA B k) ∧ k < ((w1.alloc (.cells #[I64 y.term, U8V y.kind, .slice y.cmd.a y.cmd.l.length y.cmd.c, .slice y.cfg.v.a y.cfg.v.l.length y.cfg.v.c, .slice y.cfg.o.a y.cfg.o.l.length y.cfg.o.c, .slice y.cfg.l.a y.cfg.l.l.length y.cfg.l.c, .slice y.cfg.w.a y.cfg.w.l.length y.cfg.w.c] 87)).alloc (.cells #[I64 y.term, U8V y.kind, .slice y.cmd.a y.cmd.l.length y.cmd.c, .slice y.cfg.v.a y.cfg.v.l.length y.cfg.v.c, .slice y.cfg.o.a y.cfg.o.l.length y.cfg.o.c, .slice y.cfg.l.a y.cfg.l.l.length y.cfg.l.c, .slice y.cfg.w.a y.cfg.w.l.length y.cfg.w.c] 87)).heap.size) (fun k hk hl => ⟨hk, hl⟩)).fr hfr (fun k hk => hk.1.2) |>.mono (fun k hk _ => ⟨hk.1.1, fun hj => ?_⟩)
            rcases hin k hj with h | h
            · exact hk.1.2 h
            · omega
          · rw [List.mem_singleton.1 hu]
            have i1 := (iy.nw qa).mono (F' := fun k => Since wr k ∧ k < ((w1.alloc (.cells #[I64 y.term, U8V y.kind, .slice y.cmd.a y.cmd.l.length y.cmd.c, .slice y.cfg.v.a y.cfg.v.l.length y.cfg.v.c, .slice y.cfg.o.a y.cfg.o.l.length y.cfg.o.c, .slice y.cfg.l.a y.cfg.l.l.length y.cfg.l.c, .slice y.cfg.w.a y.cfg.w.l.length y.cfg.w.c] 87)).alloc (.cells #[I64 y.term, U8V y.kind, .slice y.cmd.a y.cmd.l.length y.cmd.c, .slice y.cfg.v.a y.cfg.v.l.length y.cfg.v.c, .slice y.cfg.o.a y.cfg.o.l.length y.cfg.o.c, .slice y.cfg.l.a y.cfg.l.l.length y.cfg.l.c, .slice y.cfg.w.a y.cfg.w.l.length y.cfg.w.c] 87)).heap.size) (fun k hk hl => ⟨hk, hl⟩)
            refine (i1.fr hfr (fun k hk hj => by have := hBl k hj; have := hk.1; unfold Since at this; omega)).mono (fun k hk _ => ⟨Nat.le_trans hq.size hk.1, fun hj => ?_⟩)
            rcases hin k hj with h | h
            · have := hBl k h; have := hk.1; unfold Since at this; omega
            · omega
      case measure => simp [intOf]; omega
    · obtain rfl : xs.length = k := by omega
      go_wp2_with fail
      go_ret
      have hT := HT.out
      rw [List.take_of_length_le (Nat.le_refl _)] at hT
      exact ⟨B, c2, ys, rfl, hT, ho, fun y hy => (hys y hy).mono (fun k hk _ => hk.1), hq, hB⟩
end Go.Proofs.YtippdjaakcgeoaaGreat

namespace Go.Proofs.YtippdjaakcgeoaaGreat
open Go Go.RowKit
set_option linter.unusedVariables false
set_option linter.unusedSimpArgs false
set_option maxRecDepth 100000 in
set_option maxHeartbeats 4000000 in
theorem copy_let (w : World) (F : Nat → Prop) (x : LetM) (hx : LetIn w F x) (hz : LetSz x) :
    Calls Tryz.prog 64 #[.agg (letA x)] w fun e w' => ∃ y : LetM, e = .returned (.agg (letA y)) ∧ y.x = x.x ∧ LetIn w' (Since w) y ∧ Nw w w' := by
  obtain ⟨X, hX⟩ : ∃ X, X = w.heap.size := ⟨_, rfl⟩
  obtain ⟨Y, hY⟩ : ∃ Y, Y = w.heap.size + 1 := ⟨_, rfl⟩
  obtain ⟨W0, hW0⟩ : ∃ W, W = w.alloc (.cells #[U8V x.kind, I64 x.group, I64 x.src, I64 x.dst, I64 x.term, I64 x.index, I64 x.logt, I64 x.commit, .bool x.ok, .slice x.ents.a x.ents.l.length x.ents.c, I64 x.base.index, I64 x.base.term, .slice x.base.cfg.v.a x.base.cfg.v.l.length x.base.cfg.v.c, .slice x.base.cfg.o.a x.base.cfg.o.l.length x.base.cfg.o.c, .slice x.base.cfg.l.a x.base.cfg.l.l.length x.base.cfg.l.c, .slice x.base.cfg.w.a x.base.cfg.w.l.length x.base.cfg.w.c, I64 x.size, I64 x.at_, I64 x.tag, .slice x.bytes.a x.bytes.l.length x.bytes.c] 50) := ⟨_, rfl⟩
  have p0 : Nw w W0 := by rw [hW0]; exact (Fr.refl (fun _ => False) _).alloc _
  have x0 : Blk W0 X 50 #[U8V x.kind, I64 x.group, I64 x.src, I64 x.dst, I64 x.term, I64 x.index, I64 x.logt, I64 x.commit, .bool x.ok, .slice x.ents.a x.ents.l.length x.ents.c, I64 x.base.index, I64 x.base.term, .slice x.base.cfg.v.a x.base.cfg.v.l.length x.base.cfg.v.c, .slice x.base.cfg.o.a x.base.cfg.o.l.length x.base.cfg.o.c, .slice x.base.cfg.l.a x.base.cfg.l.l.length x.base.cfg.l.c, .slice x.base.cfg.w.a x.base.cfg.w.l.length x.base.cfg.w.c, I64 x.size, I64 x.at_, I64 x.tag, .slice x.bytes.a x.bytes.l.length x.bytes.c] := by rw [hW0, hX]; exact Blk.new _ _ _
  have hz0 : W0.heap.size = Y := by rw [hW0, hY]; simp
  obtain ⟨W1, hW1⟩ : ∃ W, W = W0.alloc (.cells #[U8V 0, I64 0, I64 0, I64 0, I64 0, I64 0, I64 0, I64 0, .bool false, .slice none 0 0, I64 0, I64 0, .slice none 0 0, .slice none 0 0, .slice none 0 0, .slice none 0 0, I64 0, I64 0, I64 0, .slice none 0 0] 50) := ⟨_, rfl⟩
  have p1 : Nw W0 W1 := by rw [hW1]; exact (Fr.refl (fun _ => False) _).alloc _
  have y1 : Blk W1 Y 50 #[U8V 0, I64 0, I64 0, I64 0, I64 0, I64 0, I64 0, I64 0, .bool false, .slice none 0 0, I64 0, I64 0, .slice none 0 0, .slice none 0 0, .slice none 0 0, .slice none 0 0, I64 0, I64 0, I64 0, .slice none 0 0] := by rw [hW1, ← hz0]; exact Blk.new _ _ _
  have x1 := x0.fr p1 (fun h => h)
  have Q1 : Nw w W1 := p0.tr p1
  have hXw : w.heap.size ≤ X := by omega
  have hYw : w.heap.size ≤ Y := by omega
  have hXY : X ≠ Y := by omega
  have hXS : ∀ b, Since W1 b → ¬ b = X := fun b hb he => by have := x1.lt; unfold Since at hb; omega
  have hYS : ∀ b, Since W1 b → ¬ b = Y := fun b hb he => by have := y1.lt; unfold Since at hb; omega
  have hS1 : W1.heap.size ≤ W1.heap.size := Nat.le_refl _
  have hSw := Q1.size
  have HX := Lib.hid hX
  have HY := Lib.hid hY
  have HW0 := Lib.hid hW0
  have HW1 := Lib.hid hW1
  have HZ0 := Lib.hid hz0
  clear hX hY hW0 hW1 hz0 x0
  go_enter Tryz.func64, Tryz.ntmps64
  go_upto_region 1 with (fail)
  rw [← HY.out, ← HX.out, ← HW0.out, ← HW1.out]
  have l2 : W1.cell? ⟨X, 9, none⟩ = some (.slice x.ents.a x.ents.l.length x.ents.c) := by simpa using x1.cell 9
  go_wp2_with fail
  refine (copy_ents _ F _ _ _ ((hx.ents.nw Q1).sl) (fun e he => (hx.each e he).nw Q1) hz.each (by have := hz.ents; omega)).mono ?_
  rintro e v2 ⟨A1, c1, ys, rfl, e1, w1, i1, q2, b1⟩
  have Qv2 : Nw w v2 := Q1.tr q2
  have xv2 := x1.fr q2 (fun h => h)
  have yv2 := y1.fr q2 (fun h => h)
  have f2 := xv2.frozen 9
  have g2 : v2.cell? ⟨X, 9, none⟩ = some (.slice x.ents.a x.ents.l.length x.ents.c) := by simpa using xv2.cell 9
  obtain ⟨W2, hW2⟩ : ∃ W, W = v2.setCell ⟨X, 9, none⟩ (.slice A1 x.ents.l.length c1) := ⟨_, rfl⟩
  have x2 : Blk W2 X 50 #[U8V x.kind, I64 x.group, I64 x.src, I64 x.dst, I64 x.term, I64 x.index, I64 x.logt, I64 x.commit, .bool x.ok, .slice A1 x.ents.l.length c1, I64 x.base.index, I64 x.base.term, .slice x.base.cfg.v.a x.base.cfg.v.l.length x.base.cfg.v.c, .slice x.base.cfg.o.a x.base.cfg.o.l.length x.base.cfg.o.c, .slice x.base.cfg.l.a x.base.cfg.l.l.length x.base.cfg.l.c, .slice x.base.cfg.w.a x.base.cfg.w.l.length x.base.cfg.w.c, I64 x.size, I64 x.at_, I64 x.tag, .slice x.bytes.a x.bytes.l.length x.bytes.c] := by rw [hW2]; exact xv2.set_ 9 _
  have m2 : Fr (· = X) v2 W2 := by rw [hW2]; exact (Fr.refl (· = X) _).set1 _ _
  have y2 := yv2.fr m2 (fun h => hXY h.symm)
  have Q2 : Nw w W2 := Qv2.new m2 (fun b hb => by omega)
  have n1 := ((⟨w1.ls (w0 := W1) (by have := congrArg List.length e1; simpa using this) (fun k hk => Nat.le_trans hS1 (b1 k hk)), fun y hy => (i1 y hy).mono (F' := Since W1) (fun k hk _ => Nat.le_trans hS1 hk)⟩ : EntsIn v2 (Since W1) ⟨A1, c1, ys⟩)).fr m2 hXS
  have hS2 : W1.heap.size ≤ W2.heap.size := Nat.le_trans (Nat.le_trans hS1 q2.size) m2.size
  have HW2 := Lib.hid hW2
  clear hW2 l2
  go_upto_region 2 with (fail)
  rw [← HW2.out]
  clear f2 g2
  have l3 : ∀ p u, ([I64 x.base.index, I64 x.base.term, .slice x.base.cfg.v.a x.base.cfg.v.l.length x.base.cfg.v.c, .slice x.base.cfg.o.a x.base.cfg.o.l.length x.base.cfg.o.c, .slice x.base.cfg.l.a x.base.cfg.l.l.length x.base.cfg.l.c, .slice x.base.cfg.w.a x.base.cfg.w.l.length x.base.cfg.w.c] : List Value)[p]? = some u → W2.cell? ⟨X, 10 + p, none⟩ = some u := Blk.cells_in x2 10 6
  go_wp2_with (refine wl_load_cells rfl 47 _ rfl X 10 rfl [I64 x.base.index, I64 x.base.term, .slice x.base.cfg.v.a x.base.cfg.v.l.length x.base.cfg.v.c, .slice x.base.cfg.o.a x.base.cfg.o.l.length x.base.cfg.o.c, .slice x.base.cfg.l.a x.base.cfg.l.l.length x.base.cfg.l.c, .slice x.base.cfg.w.a x.base.cfg.w.l.length x.base.cfg.w.c] _ l3 Tryz.underlying47 rfl (by kernel_rfl) ?_)
  refine (copy_bas _ F x.base (hx.cfg.nw Q2) hz.cfg).mono ?_
  rintro e v3 ⟨g2, rfl, e2, w2, q3⟩
  have Qv3 : Nw w v3 := Q2.tr q3
  have xv3 := x2.fr q3 (fun h => h)
  have yv3 := y2.fr q3 (fun h => h)
  have h3 := Blk.there (l := [U8V x.kind, I64 x.group, I64 x.src, I64 x.dst, I64 x.term, I64 x.index, I64 x.logt, I64 x.commit, .bool x.ok, .slice A1 x.ents.l.length c1, I64 x.base.index, I64 x.base.term, .slice x.base.cfg.v.a x.base.cfg.v.l.length x.base.cfg.v.c, .slice x.base.cfg.o.a x.base.cfg.o.l.length x.base.cfg.o.c, .slice x.base.cfg.l.a x.base.cfg.l.l.length x.base.cfg.l.c, .slice x.base.cfg.w.a x.base.cfg.w.l.length x.base.cfg.w.c, I64 x.size, I64 x.at_, I64 x.tag, .slice x.bytes.a x.bytes.l.length x.bytes.c]) xv3 10 6 (by show 10 + 6 ≤ 20; omega)
  obtain ⟨W3, hW3⟩ : ∃ W, W = v3.setCells X 10 [I64 g2.index, I64 g2.term, .slice g2.cfg.v.a g2.cfg.v.l.length g2.cfg.v.c, .slice g2.cfg.o.a g2.cfg.o.l.length g2.cfg.o.c, .slice g2.cfg.l.a g2.cfg.l.l.length g2.cfg.l.c, .slice g2.cfg.w.a g2.cfg.w.l.length g2.cfg.w.c] := ⟨_, rfl⟩
  have x3 : Blk W3 X 50 #[U8V x.kind, I64 x.group, I64 x.src, I64 x.dst, I64 x.term, I64 x.index, I64 x.logt, I64 x.commit, .bool x.ok, .slice A1 x.ents.l.length c1, I64 g2.index, I64 g2.term, .slice g2.cfg.v.a g2.cfg.v.l.length g2.cfg.v.c, .slice g2.cfg.o.a g2.cfg.o.l.length g2.cfg.o.c, .slice g2.cfg.l.a g2.cfg.l.l.length g2.cfg.l.c, .slice g2.cfg.w.a g2.cfg.w.l.length g2.cfg.w.c, I64 x.size, I64 x.at_, I64 x.tag, .slice x.bytes.a x.bytes.l.length x.bytes.c] := by rw [hW3]; exact Blk.setCells (l := [U8V x.kind, I64 x.group, I64 x.src, I64 x.dst, I64 x.term, I64 x.index, I64 x.logt, I64 x.commit, .bool x.ok, .slice A1 x.ents.l.length c1, I64 x.base.index, I64 x.base.term, .slice x.base.cfg.v.a x.base.cfg.v.l.length x.base.cfg.v.c, .slice x.base.cfg.o.a x.base.cfg.o.l.length x.base.cfg.o.c, .slice x.base.cfg.l.a x.base.cfg.l.l.length x.base.cfg.l.c, .slice x.base.cfg.w.a x.base.cfg.w.l.length x.base.cfg.w.c, I64 x.size, I64 x.at_, I64 x.tag, .slice x.bytes.a x.bytes.l.length x.bytes.c]) xv3 10 [I64 g2.index, I64 g2.term, .slice g2.cfg.v.a g2.cfg.v.l.length g2.cfg.v.c, .slice g2.cfg.o.a g2.cfg.o.l.length g2.cfg.o.c, .slice g2.cfg.l.a g2.cfg.l.l.length g2.cfg.l.c, .slice g2.cfg.w.a g2.cfg.w.l.length g2.cfg.w.c]
  have m3 : Fr (· = X) v3 W3 := by rw [hW3]; exact (Fr.refl (· = X) _).setCells _ _
  have o3 : (#[I64 g2.index, I64 g2.term, .slice g2.cfg.v.a g2.cfg.v.l.length g2.cfg.v.c, .slice g2.cfg.o.a g2.cfg.o.l.length g2.cfg.o.c, .slice g2.cfg.l.a g2.cfg.l.l.length g2.cfg.l.c, .slice g2.cfg.w.a g2.cfg.w.l.length g2.cfg.w.c] : Array Value).all (·.oneCell') = true := by rw [List.all_toArray]; simp only [List.all_cons, List.all_nil]; rfl
  have y3 := yv3.fr m3 (fun h => hXY h.symm)
  have Q3 : Nw w W3 := Qv3.new m3 (fun b hb => by omega)
  have n1 := (n1.nw q3).fr m3 hXS
  have n2 := (w2.mono (F' := Since W1) (fun k hk _ => Nat.le_trans hS2 hk)).fr m3 hXS
  have hS3 : W1.heap.size ≤ W3.heap.size := Nat.le_trans (Nat.le_trans hS2 q3.size) m3.size
  have HW3 := Lib.hid hW3
  clear hW3 l3
  go_upto_region 3 with (refine wpList_store_mid rfl 47 _ _ rfl X 10 #[I64 g2.index, I64 g2.term, .slice g2.cfg.v.a g2.cfg.v.l.length g2.cfg.v.c, .slice g2.cfg.o.a g2.cfg.o.l.length g2.cfg.o.c, .slice g2.cfg.l.a g2.cfg.l.l.length g2.cfg.l.c, .slice g2.cfg.w.a g2.cfg.w.l.length g2.cfg.w.c] rfl rfl h3 (by kernel_rfl) o3 ?_)
  rw [← HW3.out]
  have l4 : W3.cell? ⟨X, 19, none⟩ = some (.slice x.bytes.a x.bytes.l.length x.bytes.c) := by simpa using x3.cell 19
  go_wp2_with fail
  refine (copy_u8 _ F _ _ _ ((hx.bytes.nw Q3).sl) (by have := hz.bytes; omega)).mono ?_
  rintro e v4 ⟨A3, c3, rfl, w3, q4, b3⟩
  have Qv4 : Nw w v4 := Q3.tr q4
  have xv4 := x3.fr q4 (fun h => h)
  have yv4 := y3.fr q4 (fun h => h)
  have f4 := xv4.frozen 19
  have g4 : v4.cell? ⟨X, 19, none⟩ = some (.slice x.bytes.a x.bytes.l.length x.bytes.c) := by simpa using xv4.cell 19
  obtain ⟨W4, hW4⟩ : ∃ W, W = v4.setCell ⟨X, 19, none⟩ (.slice A3 x.bytes.l.length c3) := ⟨_, rfl⟩
  have x4 : Blk W4 X 50 #[U8V x.kind, I64 x.group, I64 x.src, I64 x.dst, I64 x.term, I64 x.index, I64 x.logt, I64 x.commit, .bool x.ok, .slice A1 x.ents.l.length c1, I64 g2.index, I64 g2.term, .slice g2.cfg.v.a g2.cfg.v.l.length g2.cfg.v.c, .slice g2.cfg.o.a g2.cfg.o.l.length g2.cfg.o.c, .slice g2.cfg.l.a g2.cfg.l.l.length g2.cfg.l.c, .slice g2.cfg.w.a g2.cfg.w.l.length g2.cfg.w.c, I64 x.size, I64 x.at_, I64 x.tag, .slice A3 x.bytes.l.length c3] := by rw [hW4]; exact xv4.set_ 19 _
  have m4 : Fr (· = X) v4 W4 := by rw [hW4]; exact (Fr.refl (· = X) _).set1 _ _
  have y4 := yv4.fr m4 (fun h => hXY h.symm)
  have Q4 : Nw w W4 := Qv4.new m4 (fun b hb => by omega)
  have n1 := (n1.nw q4).fr m4 hXS
  have n2 := (n2.nw q4).fr m4 hXS
  have n3 := (w3.ls (w0 := W1) (l := x.bytes.l) rfl (fun k hk => Nat.le_trans hS3 (b3 k hk))).fr m4 hXS
  have hS4 : W1.heap.size ≤ W4.heap.size := Nat.le_trans (Nat.le_trans hS3 q4.size) m4.size
  have HW4 := Lib.hid hW4
  clear hW4 l4
  go_upto_region 4 with (fail)
  rw [← HW4.out]
  clear f4 g4
  have lz : ∀ p u, ([U8V x.kind, I64 x.group, I64 x.src, I64 x.dst, I64 x.term, I64 x.index, I64 x.logt, I64 x.commit, .bool x.ok, .slice A1 x.ents.l.length c1, I64 g2.index, I64 g2.term, .slice g2.cfg.v.a g2.cfg.v.l.length g2.cfg.v.c, .slice g2.cfg.o.a g2.cfg.o.l.length g2.cfg.o.c, .slice g2.cfg.l.a g2.cfg.l.l.length g2.cfg.l.c, .slice g2.cfg.w.a g2.cfg.w.l.length g2.cfg.w.c, I64 x.size, I64 x.at_, I64 x.tag, .slice A3 x.bytes.l.length c3] : List Value)[p]? = some u → W4.cell? ⟨X, 0 + p, none⟩ = some u := Blk.cells_in x4 0 20
  have hz := Blk.there (l := [U8V 0, I64 0, I64 0, I64 0, I64 0, I64 0, I64 0, I64 0, .bool false, .slice none 0 0, I64 0, I64 0, .slice none 0 0, .slice none 0 0, .slice none 0 0, .slice none 0 0, I64 0, I64 0, I64 0, .slice none 0 0]) y4 0 20 (by show 0 + 20 ≤ 20; omega)
  have oz : (#[U8V x.kind, I64 x.group, I64 x.src, I64 x.dst, I64 x.term, I64 x.index, I64 x.logt, I64 x.commit, .bool x.ok, .slice A1 x.ents.l.length c1, I64 g2.index, I64 g2.term, .slice g2.cfg.v.a g2.cfg.v.l.length g2.cfg.v.c, .slice g2.cfg.o.a g2.cfg.o.l.length g2.cfg.o.c, .slice g2.cfg.l.a g2.cfg.l.l.length g2.cfg.l.c, .slice g2.cfg.w.a g2.cfg.w.l.length g2.cfg.w.c, I64 x.size, I64 x.at_, I64 x.tag, .slice A3 x.bytes.l.length c3] : Array Value).all (·.oneCell') = true := by rw [List.all_toArray]; simp only [List.all_cons, List.all_nil]; rfl
  obtain ⟨WZ, hWZ⟩ : ∃ W, W = W4.setCells Y 0 [U8V x.kind, I64 x.group, I64 x.src, I64 x.dst, I64 x.term, I64 x.index, I64 x.logt, I64 x.commit, .bool x.ok, .slice A1 x.ents.l.length c1, I64 g2.index, I64 g2.term, .slice g2.cfg.v.a g2.cfg.v.l.length g2.cfg.v.c, .slice g2.cfg.o.a g2.cfg.o.l.length g2.cfg.o.c, .slice g2.cfg.l.a g2.cfg.l.l.length g2.cfg.l.c, .slice g2.cfg.w.a g2.cfg.w.l.length g2.cfg.w.c, I64 x.size, I64 x.at_, I64 x.tag, .slice A3 x.bytes.l.length c3] := ⟨_, rfl⟩
  have yz : Blk WZ Y 50 #[U8V x.kind, I64 x.group, I64 x.src, I64 x.dst, I64 x.term, I64 x.index, I64 x.logt, I64 x.commit, .bool x.ok, .slice A1 x.ents.l.length c1, I64 g2.index, I64 g2.term, .slice g2.cfg.v.a g2.cfg.v.l.length g2.cfg.v.c, .slice g2.cfg.o.a g2.cfg.o.l.length g2.cfg.o.c, .slice g2.cfg.l.a g2.cfg.l.l.length g2.cfg.l.c, .slice g2.cfg.w.a g2.cfg.w.l.length g2.cfg.w.c, I64 x.size, I64 x.at_, I64 x.tag, .slice A3 x.bytes.l.length c3] := by rw [hWZ]; exact Blk.setCells (l := [U8V 0, I64 0, I64 0, I64 0, I64 0, I64 0, I64 0, I64 0, .bool false, .slice none 0 0, I64 0, I64 0, .slice none 0 0, .slice none 0 0, .slice none 0 0, .slice none 0 0, I64 0, I64 0, I64 0, .slice none 0 0]) y4 0 [U8V x.kind, I64 x.group, I64 x.src, I64 x.dst, I64 x.term, I64 x.index, I64 x.logt, I64 x.commit, .bool x.ok, .slice A1 x.ents.l.length c1, I64 g2.index, I64 g2.term, .slice g2.cfg.v.a g2.cfg.v.l.length g2.cfg.v.c, .slice g2.cfg.o.a g2.cfg.o.l.length g2.cfg.o.c, .slice g2.cfg.l.a g2.cfg.l.l.length g2.cfg.l.c, .slice g2.cfg.w.a g2.cfg.w.l.length g2.cfg.w.c, I64 x.size, I64 x.at_, I64 x.tag, .slice A3 x.bytes.l.length c3]
  have mz : Fr (· = Y) W4 WZ := by rw [hWZ]; exact (Fr.refl (· = Y) _).setCells _ _
  have QZ : Nw w WZ := Q4.new mz (fun b hb => by omega)
  have HWZ := Lib.hid hWZ
  clear hWZ
  have n1 := (n1.fr mz hYS).mono (F' := Since w) (fun k hk _ => Nat.le_trans hSw hk)
  have n2 := (n2.fr mz hYS).mono (F' := Since w) (fun k hk _ => Nat.le_trans hSw hk)
  have n3 := (n3.fr mz hYS).mono (F' := Since w) (fun k hk _ => Nat.le_trans hSw hk)
  have el : ys.length = x.ents.l.length := by have := congrArg List.length e1; simpa using this
  go_wp2_with (first | (refine wl_load_cells rfl 50 _ rfl X 0 rfl [U8V x.kind, I64 x.group, I64 x.src, I64 x.dst, I64 x.term, I64 x.index, I64 x.logt, I64 x.commit, .bool x.ok, .slice A1 x.ents.l.length c1, I64 g2.index, I64 g2.term, .slice g2.cfg.v.a g2.cfg.v.l.length g2.cfg.v.c, .slice g2.cfg.o.a g2.cfg.o.l.length g2.cfg.o.c, .slice g2.cfg.l.a g2.cfg.l.l.length g2.cfg.l.c, .slice g2.cfg.w.a g2.cfg.w.l.length g2.cfg.w.c, I64 x.size, I64 x.at_, I64 x.tag, .slice A3 x.bytes.l.length c3] _ lz Tryz.underlying50 rfl (by kernel_rfl) ?_) | (refine wpList_store_mid rfl 50 _ _ rfl Y 0 #[U8V x.kind, I64 x.group, I64 x.src, I64 x.dst, I64 x.term, I64 x.index, I64 x.logt, I64 x.commit, .bool x.ok, .slice A1 x.ents.l.length c1, I64 g2.index, I64 g2.term, .slice g2.cfg.v.a g2.cfg.v.l.length g2.cfg.v.c, .slice g2.cfg.o.a g2.cfg.o.l.length g2.cfg.o.c, .slice g2.cfg.l.a g2.cfg.l.l.length g2.cfg.l.c, .slice g2.cfg.w.a g2.cfg.w.l.length g2.cfg.w.c, I64 x.size, I64 x.at_, I64 x.tag, .slice A3 x.bytes.l.length c3] rfl rfl hz (by kernel_rfl) oz ?_; rw [← HWZ.out]))
  refine bodyPost_ret (v := .agg #[U8V x.kind, I64 x.group, I64 x.src, I64 x.dst, I64 x.term, I64 x.index, I64 x.logt, I64 x.commit, .bool x.ok, .slice A1 x.ents.l.length c1, I64 g2.index, I64 g2.term, .slice g2.cfg.v.a g2.cfg.v.l.length g2.cfg.v.c, .slice g2.cfg.o.a g2.cfg.o.l.length g2.cfg.o.c, .slice g2.cfg.l.a g2.cfg.l.l.length g2.cfg.l.c, .slice g2.cfg.w.a g2.cfg.w.l.length g2.cfg.w.c, I64 x.size, I64 x.at_, I64 x.tag, .slice A3 x.bytes.l.length c3]) ?_ rfl ?_
  · exact results_cell_row rfl _ _ Y 50 _ (0, 0) _ rfl yz Tryz.underlying50 rfl (by kernel_rfl)
  exact ⟨{ x with ents := ⟨A1, c1, ys⟩, base := g2, bytes := ⟨A3, c3, x.bytes.l⟩ }, by rw [← el], by show (⟨x.kind, x.group, x.src, x.dst, x.term, x.index, x.logt, x.commit, x.ok, ys.map EntM.x, g2.x, x.size, x.at_, x.tag, x.bytes.l⟩ : LetF) = _; rw [e1, e2], ⟨hx.kind, n1.ls, n1.each, n2, n3⟩, QZ⟩
theorem info_let : (Tryz.prog.info? 50).map (fun i => (i.zero, i.size, i.bytes)) = some (some (.agg #[U8V 0, I64 0, I64 0, I64 0, I64 0, I64 0, I64 0, I64 0, .bool false, .slice none 0 0, I64 0, I64 0, .slice none 0 0, .slice none 0 0, .slice none 0 0, .slice none 0 0, I64 0, I64 0, I64 0, .slice none 0 0]), 20, 256) := by kernel_rfl
def copy_letsR (w : World) (xs : List LetM) (v i : Value) (wr : World) : Prop :=
  ∃ (k : Nat) (ys : List LetM) (B : Option Addr) (c : Nat), k ≤ xs.length ∧ i = .int .i64 k ∧ v = .slice B k c ∧ ys.map LetM.x = (xs.take k).map LetM.x ∧ Own wr 50 20 B k c (letsC ys) ∧ (∀ y ∈ ys, LetIn wr (fun k => Since w k ∧ ¬ inA B k) y) ∧ Nw w wr ∧ ∀ j, inA B j → w.heap.size ≤ j
end Go.Proofs.YtippdjaakcgeoaaGreat
