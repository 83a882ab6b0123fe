/- Lemmas of the walks: ClE. (Laid together by shake.py.) -/
import Derived.Deep.MidRow
import Derived.Test.YtippdjaakcgeoaaGreatEa04
import Derived.Test.YtippdjaakcgeoaaGreatEa09
import Derived.Test.YtippdjaakcgeoaaGreatEa28
set_option linter.unusedVariables false
set_option linter.unusedSimpArgs false
set_option maxRecDepth 100000
set_option maxHeartbeats 16000000
namespace Go.Proofs.YtippdjaakcgeoaaGreat
open Go Go.RowKit
theorem zhf {w w' : World} {g : Nat} {t : TypeId} {cs : List Value} (h : Blk w g t cs.toArray) (q : Nw w w') : w'.rangeAt g 0 cs := fun j v hj => by
 rw [Nat.zero_add, (h.fr q (fun h => h)).cell]
 simpa using hj
theorem zlV (x y : LetM) : decide (x.x = y.x) = (decide (zcc x = zcc y) && (decide (x.ok = y.ok) && (decide (x.ents.l.map EntM.x = y.ents.l.map EntM.x) && (decide (x.base.cfg.x = y.base.cfg.x) && decide (x.bytes.l = y.bytes.l))))) := by
 rw [Bool.eq_iff_iff]
 simp only [decide_eq_true_eq, Bool.and_eq_true, LetF.mk.injEq, Bas.mk.injEq, zcc, List.cons.injEq]
 constructor
 ·rintro ⟨h1, h2, h3, h4, h5, h6, h7, h8, h9, h10, ⟨h11, h12, h13⟩, h14, h15, h16, h17⟩
  exact ⟨⟨h1, h2, h3, h4, h5, h6, h7, h8, h11, h12, h14, h15, h16, trivial⟩, h9, h10, h13, h17⟩
 ·rintro ⟨⟨h1, h2, h3, h4, h5, h6, h7, h8, h11, h12, h14, h15, h16, _⟩, h9, h10, h13, h17⟩
  exact ⟨h1, h2, h3, h4, h5, h6, h7, h8, h9, h10, ⟨h11, h12, h13⟩, h14, h15, h16, h17⟩
theorem zmi (w : World) (F1 F2 : Nat → Prop) (g1 g2 : Nat) (x y : LetM) (h1 : Sl w F1 (some ⟨g1, 0, none⟩) (zac (zcc x))) (h2 : Sl w F2 (some ⟨g2, 0, none⟩) (zac (zcc y))) :
  Calls Tryz.prog 82 #[.slice (some ⟨g1, 0, none⟩) 13 13, .slice (some ⟨g2, 0, none⟩) 13 13] w fun e w' => e = .returned (.bool (decide (zcc x = zcc y))) ∧ Nw w w' :=
 zeD w F1 F2 _ _ 13 13 (zcc x) (zcc y) h1 h2 (by show 13 ≤ 1000000000000; omega)
theorem zhi (w : World) (F1 F2 : Nat → Prop) (x y : LetM) (hx : za3 w F1 x) (hy : za3 w F2 y) (hz : za8 x) :
  Calls Tryz.prog 37 #[.agg (letA x), .agg (letA y)] w fun e w' => e = .returned (.bool (decide (x.x = y.x))) ∧ Nw w w' := by
 rw [zlV]
 obtain ⟨X, hX⟩ : ∃ X, X = w.heap.size := ⟨_, rfl⟩
 obtain ⟨Y, hY⟩ : ∃ Y, Y = w.heap.size + 1 := ⟨_, rfl⟩
 obtain ⟨W0, hW0⟩ : ∃ W, W = w.alloc (.cells (letA x) 50) := ⟨_, rfl⟩
 have p0 : Nw w W0 := by rw [hW0]; exact (Fr.refl (fun _ => False) _).alloc _
 have x0 : Blk W0 X 50 (letA x) := by rw [hW0, hX]; exact Blk.new _ _ _
 have hz0 : W0.heap.size = Y := by rw [hW0, hY]; simp
 obtain ⟨W1, hW1⟩ : ∃ W, W = W0.alloc (.cells (letA y) 50) := ⟨_, rfl⟩
 have p1 : Nw W0 W1 := by rw [hW1]; exact (Fr.refl (fun _ => False) _).alloc _
 have y1 : Blk W1 Y 50 (letA y) := by rw [hW1, ← hz0]; exact Blk.new _ _ _
 have x1 := x0.fr p1 (fun h => h)
 have pw := p0.tr p1
 have hRX : ∀ w1, Nw W1 w1 → w1.rangeAt X 0 (letL x) := fun w1 f => zhf (cs := (letL x)) x1 f
 have hRY : ∀ w1, Nw W1 w1 → w1.rangeAt Y 0 (letL y) := fun w1 f => zhf (cs := (letL y)) y1 f
 have hC : ∀ w1, Nw W1 w1 → w1.cell? ⟨X, 8, none⟩ = some (.bool x.ok) ∧ w1.cell? ⟨X, 9, none⟩ = some (.slice x.ents.a x.ents.l.length x.ents.c) ∧ w1.cell? ⟨X, 12, none⟩ = some (.slice x.base.cfg.v.a x.base.cfg.v.l.length x.base.cfg.v.c) ∧ w1.cell? ⟨X, 13, none⟩ = some (.slice x.base.cfg.o.a x.base.cfg.o.l.length x.base.cfg.o.c) ∧ w1.cell? ⟨X, 14, none⟩ = some (.slice x.base.cfg.l.a x.base.cfg.l.l.length x.base.cfg.l.c) ∧ w1.cell? ⟨X, 15, none⟩ = some (.slice x.base.cfg.w.a x.base.cfg.w.l.length x.base.cfg.w.c) ∧ w1.cell? ⟨X, 19, none⟩ = some (.slice x.bytes.a x.bytes.l.length x.bytes.c) ∧ w1.cell? ⟨Y, 8, none⟩ = some (.bool y.ok) ∧ w1.cell? ⟨Y, 9, none⟩ = some (.slice y.ents.a y.ents.l.length y.ents.c) ∧ w1.cell? ⟨Y, 12, none⟩ = some (.slice y.base.cfg.v.a y.base.cfg.v.l.length y.base.cfg.v.c) ∧ w1.cell? ⟨Y, 13, none⟩ = some (.slice y.base.cfg.o.a y.base.cfg.o.l.length y.base.cfg.o.c) ∧ w1.cell? ⟨Y, 14, none⟩ = some (.slice y.base.cfg.l.a y.base.cfg.l.l.length y.base.cfg.l.c) ∧ w1.cell? ⟨Y, 15, none⟩ = some (.slice y.base.cfg.w.a y.base.cfg.w.l.length y.base.cfg.w.c) ∧ w1.cell? ⟨Y, 19, none⟩ = some (.slice y.bytes.a y.bytes.l.length y.bytes.c) := fun w1 f => by
  have a := x1.fr f (fun h => h)
  have b := y1.fr f (fun h => h)
  exact ⟨by simpa using a.cell 8, by simpa using a.cell 9, by simpa using a.cell 12, by simpa using a.cell 13, by simpa using a.cell 14, by simpa using a.cell 15, by simpa using a.cell 19, by simpa using b.cell 8, by simpa using b.cell 9, by simpa using b.cell 12, by simpa using b.cell 13, by simpa using b.cell 14, by simpa using b.cell 15, by simpa using b.cell 19⟩
 have zx : ∀ w1, Nw W1 w1 → _ := fun w1 f => zfk w1 F1 x (hx.nw (pw.tr f))
 have zy : ∀ w1, Nw W1 w1 → _ := fun w1 f => zfk w1 F2 y (hy.nw (pw.tr f))
 have z1 : ∀ w1 G1 G2 g1 g2, Sl w1 G1 (some ⟨g1, 0, none⟩) (zac (zcc x)) → Sl w1 G2 (some ⟨g2, 0, none⟩) (zac (zcc y)) → Calls Tryz.prog 82 #[.slice (some ⟨g1, 0, none⟩) 13 13, .slice (some ⟨g2, 0, none⟩) 13 13] w1 fun e w' => e = .returned (.bool (decide (zcc x = zcc y))) ∧ Nw w1 w' := fun w1 G1 G2 g1 g2 h1 h2 => zmi w1 G1 G2 g1 g2 x y h1 h2
 have z2 : (x.ok == y.ok) = (decide (x.ok = y.ok)) := zik _ _
 have z3 : ∀ w1, Nw W1 w1 → Calls Tryz.prog 84 #[.slice x.ents.a x.ents.l.length x.ents.c, .slice y.ents.a y.ents.l.length y.ents.c, .func (.func 85) #[] #[]] w1 fun e w' => e = .returned (.bool (decide (x.ents.l.map EntM.x = y.ents.l.map EntM.x))) ∧ Nw w1 w' := fun w1 f => zkV w1 F1 F2 _ _ _ _ _ _ (hx.ents.nw (pw.tr f)).sl (hy.ents.nw (pw.tr f)).sl (fun e he => (hx.each e he).nw (pw.tr f)) (fun e he => (hy.each e he).nw (pw.tr f)) hz.each (by have := hz.ents; omega)
 have z4 : ∀ w1, Nw W1 w1 → Calls Tryz.prog 86 #[.agg (cfgA x.base.cfg), .agg (cfgA y.base.cfg)] w1 fun e w' => e = .returned (.bool (decide (x.base.cfg.x = y.base.cfg.x))) ∧ Nw w1 w' := fun w1 f => ziH w1 F1 F2 x.base.cfg y.base.cfg (hx.cfg.nw (pw.tr f)) (hy.cfg.nw (pw.tr f)) hz.cfg
 have z5 : ∀ w1, Nw W1 w1 → Calls Tryz.prog 87 #[.slice x.bytes.a x.bytes.l.length x.bytes.c, .slice y.bytes.a y.bytes.l.length y.bytes.c] w1 fun e w' => e = .returned (.bool (decide (x.bytes.l = y.bytes.l))) ∧ Nw w1 w' := fun w1 f => zgc w1 F1 F2 _ _ _ _ _ _ (hx.bytes.nw (pw.tr f)).sl (hy.bytes.nw (pw.tr f)).sl
 obtain ⟨d1, e1⟩ : ∃ d, (decide (zcc x = zcc y)) = d := ⟨_, rfl⟩
 simp only [e1] at z1 ⊢
 obtain ⟨d2, e2⟩ : ∃ d, (decide (x.ok = y.ok)) = d := ⟨_, rfl⟩
 simp only [e2] at z2 ⊢
 obtain ⟨d3, e3⟩ : ∃ d, (decide (x.ents.l.map EntM.x = y.ents.l.map EntM.x)) = d := ⟨_, rfl⟩
 simp only [e3] at z3 ⊢
 obtain ⟨d4, e4⟩ : ∃ d, (decide (x.base.cfg.x = y.base.cfg.x)) = d := ⟨_, rfl⟩
 simp only [e4] at z4 ⊢
 obtain ⟨d5, e5⟩ : ∃ d, (decide (x.bytes.l = y.bytes.l)) = d := ⟨_, rfl⟩
 simp only [e5] at z5 ⊢
 have QQ : Nw W1 W1.drew := (Fr.refl (fun _ => False) W1).drew
 have HX := Lib.hid hX
 have HY := Lib.hid hY
 have HW0 := Lib.hid hW0
 have HW1 := Lib.hid hW1
 have HC := Lib.hid hC
 have HRX := Lib.hid hRX
 have HRY := Lib.hid hRY
 have ZX := Lib.hid zx
 have ZY := Lib.hid zy
 have Z1 := Lib.hid z1
 have Z3 := Lib.hid z3
 have Z4 := Lib.hid z4
 have Z5 := Lib.hid z5
 clear hX hY hW0 hW1 hz0 x0 x1 y1 hC hRX hRY zx zy z1 z3 z4 z5 e1 e2 e3 e4 e5 hx hy hz
 cases d1 with
 | false =>
  go_enter Tryz.func37, Tryz.ntmps37
  go_upto_region 1 with (fail)
  rw [← HY.out, ← HX.out, ← HW0.out, ← HW1.out]
  refine wp_region_held_drew (S := fun w' => Nw W1 w') (by kernel_rfl) QQ (fun hHeld => ?_)
  refine' za7 5 (i := 0) (v := _) rfl rfl (by kernel_rfl) (by kernel_rfl) (by kernel_rfl) (fun _ _ _ h => h) (yieldsIf_load_mid (by rfl) _ _ rfl _ _ rfl _ _ (fun w q => HRX.out w q) Tryz.underlying50 rfl (by kernel_rfl)) (by assumption) ?re0b
  try simp only [Act.put, sA9, sB9, sC9]
  refine' za7 7 (i := 2) (v := _) rfl rfl (by kernel_rfl) (by kernel_rfl) (by kernel_rfl) (fun _ _ _ h => h) (yieldsIf_load_mid (by rfl) _ _ rfl _ _ rfl _ _ (fun w q => HRY.out w q) Tryz.underlying50 rfl (by kernel_rfl)) (by assumption) ?re2b
  try simp only [Act.put, sA9, sB9, sC9]
  refine zbr 6 83 #[.agg (letA x)] (i := 1) rfl rfl (by kernel_rfl) (by rfl) ?he1b ?hc1b
  case he1b => (intro w; go_simp; try with_reducible rfl)
  refine (ZX.out _ QQ).mono ?_
  rintro e w1 ⟨g1, rfl, _, _, l1, q1⟩
  have R1 := QQ.tr q1
  refine ⟨_, rfl, R1, ?_⟩
  try simp only [Act.put, sA9, sB9, sC9]
  refine zbr 8 83 #[.agg (letA y)] (i := 3) rfl rfl (by kernel_rfl) (by rfl) ?he3b ?hc3b
  case he3b => (intro w; go_simp; try with_reducible rfl)
  refine (ZY.out w1 R1).mono ?_
  rintro e w2 ⟨g2, rfl, _, _, l2, q2⟩
  have R2 := R1.tr q2
  refine ⟨_, rfl, R2, ?_⟩
  try simp only [Act.put, sA9, sB9, sC9]
  refine zbr 9 82 #[.slice (some ⟨g1, 0, none⟩) 13 13, .slice (some ⟨g2, 0, none⟩) 13 13] (i := 4) rfl rfl (by kernel_rfl) (by rfl) ?he4b ?hc4b
  case he4b => (intro w; go_simp; try with_reducible rfl)
  refine (Z1.out w2 _ _ g1 g2 (l1.fr q2 (fun _ _ h => h)) l2).mono ?_
  rintro e w3 ⟨rfl, q3⟩
  have R3 := R2.tr q3
  refine ⟨_, rfl, R3, ?_⟩
  try simp only [Act.put, sA9, sB9, sC9]
  refine' za7 10 (i := 5) (v := _) rfl rfl (by kernel_rfl) (by kernel_rfl) (by kernel_rfl) (fun _ _ _ h => h) (Or.inl ⟨by rfl, ?hy5b⟩) (by assumption) ?re5b
  case hy5b => (intro w hSw; obtain ⟨c8, c9, c12, c13, c14, c15, c19, b8, b9, b12, b13, b14, b15, b19⟩ := HC.out w hSw; go_simp; try with_reducible rfl)
  try simp only [Act.put, sA9, sB9, sC9]
  refine' zax 11 (i := 6) rfl rfl (by kernel_rfl) (by kernel_rfl) (by kernel_rfl) (fun _ _ _ h => h) (by rfl) (by assumption) ?re6b
  try simp only [Act.put, sA9, sB9, sC9]
  refine' zax 12 (i := 7) rfl rfl (by kernel_rfl) (by kernel_rfl) (by kernel_rfl) (fun _ _ _ h => h) (by rfl) (by assumption) ?re7b
  try simp only [Act.put, sA9, sB9, sC9]
  refine' zax 13 (i := 8) rfl rfl (by kernel_rfl) (by kernel_rfl) (by kernel_rfl) (fun _ _ _ h => h) (by rfl) (by assumption) ?re8b
  try simp only [Act.put, sA9, sB9, sC9]
  refine' zax 14 (i := 9) rfl rfl (by kernel_rfl) (by kernel_rfl) (by kernel_rfl) (fun _ _ _ h => h) (by rfl) (by assumption) ?re9b
  try simp only [Act.put, sA9, sB9, sC9]
  refine' zax 15 (i := 10) rfl rfl (by kernel_rfl) (by kernel_rfl) (by kernel_rfl) (fun _ _ _ h => h) (by rfl) (by assumption) ?re10b
  try simp only [Act.put, sA9, sB9, sC9]
  refine' za7 16 (i := 11) (v := _) rfl rfl (by kernel_rfl) (by kernel_rfl) (by kernel_rfl) (fun _ _ _ h => h) (Or.inl ⟨by rfl, ?hy11b⟩) (by assumption) ?re11b
  case hy11b => (intro w hSw; obtain ⟨c8, c9, c12, c13, c14, c15, c19, b8, b9, b12, b13, b14, b15, b19⟩ := HC.out w hSw; go_simp; try with_reducible rfl)
  try simp only [Act.put, sA9, sB9, sC9]
  refine' za7 17 (i := 12) (v := _) rfl rfl (by kernel_rfl) (by kernel_rfl) (by kernel_rfl) (fun _ _ _ h => h) (Or.inl ⟨by rfl, ?hy12b⟩) (by assumption) ?re12b
  case hy12b => (intro w hSw; obtain ⟨c8, c9, c12, c13, c14, c15, c19, b8, b9, b12, b13, b14, b15, b19⟩ := HC.out w hSw; go_simp; try with_reducible rfl)
  try simp only [Act.put, sA9, sB9, sC9]
  refine' zax 18 (i := 13) rfl rfl (by kernel_rfl) (by kernel_rfl) (by kernel_rfl) (fun _ _ _ h => h) (by rfl) (by assumption) ?re13b
  try simp only [Act.put, sA9, sB9, sC9]
  refine' zax 19 (i := 14) rfl rfl (by kernel_rfl) (by kernel_rfl) (by kernel_rfl) (fun _ _ _ h => h) (by rfl) (by assumption) ?re14b
  try simp only [Act.put, sA9, sB9, sC9]
  refine' zax 20 (i := 15) rfl rfl (by kernel_rfl) (by kernel_rfl) (by kernel_rfl) (fun _ _ _ h => h) (by rfl) (by assumption) ?re15b
  try simp only [Act.put, sA9, sB9, sC9]
  refine' zax 21 (i := 16) rfl rfl (by kernel_rfl) (by kernel_rfl) (by kernel_rfl) (fun _ _ _ h => h) (by rfl) (by assumption) ?re16b
  try simp only [Act.put, sA9, sB9, sC9]
  refine' zax 22 (i := 17) rfl rfl (by kernel_rfl) (by kernel_rfl) (by kernel_rfl) (fun _ _ _ h => h) (by rfl) (by assumption) ?re17b
  try simp only [Act.put, sA9, sB9, sC9]
  refine' za7 23 (i := 18) (v := _) rfl rfl (by kernel_rfl) (by kernel_rfl) (by kernel_rfl) (fun _ _ _ h => h) (Or.inl ⟨by rfl, ?hy18b⟩) (by assumption) ?re18b
  case hy18b => (intro w hSw; obtain ⟨c8, c9, c12, c13, c14, c15, c19, b8, b9, b12, b13, b14, b15, b19⟩ := HC.out w hSw; go_simp; try with_reducible rfl)
  try simp only [Act.put, sA9, sB9, sC9]
  refine' za7 24 (i := 19) (v := _) rfl rfl (by kernel_rfl) (by kernel_rfl) (by kernel_rfl) (fun _ _ _ h => h) (Or.inl ⟨by rfl, ?hy19b⟩) (by assumption) ?re19b
  case hy19b => (intro w hSw; obtain ⟨c8, c9, c12, c13, c14, c15, c19, b8, b9, b12, b13, b14, b15, b19⟩ := HC.out w hSw; go_simp; try with_reducible rfl)
  try simp only [Act.put, sA9, sB9, sC9]
  refine' zax 25 (i := 20) rfl rfl (by kernel_rfl) (by kernel_rfl) (by kernel_rfl) (fun _ _ _ h => h) (by rfl) (by assumption) ?re20b
  try simp only [Act.put, sA9, sB9, sC9]
  refine' zax 26 (i := 21) rfl rfl (by kernel_rfl) (by kernel_rfl) (by kernel_rfl) (fun _ _ _ h => h) (by rfl) (by assumption) ?re21b
  try simp only [Act.put, sA9, sB9, sC9]
  refine' zax 27 (i := 22) rfl rfl (by kernel_rfl) (by kernel_rfl) (by kernel_rfl) (fun _ _ _ h => h) (by rfl) (by assumption) ?re22b
  try simp only [Act.put, sA9, sB9, sC9]
  refine' zax 28 (i := 23) rfl rfl (by kernel_rfl) (by kernel_rfl) (by kernel_rfl) (fun _ _ _ h => h) (by rfl) (by assumption) ?re23b
  try simp only [Act.put, sA9, sB9, sC9]
  refine' zax 29 (i := 24) rfl rfl (by kernel_rfl) (by kernel_rfl) (by kernel_rfl) (fun _ _ _ h => h) (by rfl) (by assumption) ?re24b
  try simp only [Act.put, sA9, sB9, sC9]
  refine' zax 30 (i := 25) rfl rfl (by kernel_rfl) (by kernel_rfl) (by kernel_rfl) (fun _ _ _ h => h) (by rfl) (by assumption) ?re25b
  try simp only [Act.put, sA9, sB9, sC9]
  refine' zax 31 (i := 26) rfl rfl (by kernel_rfl) (by kernel_rfl) (by kernel_rfl) (fun _ _ _ h => h) (by rfl) (by assumption) ?re26b
  try simp only [Act.put, sA9, sB9, sC9]
  refine' za7 32 (i := 27) (v := _) rfl rfl (by kernel_rfl) (by kernel_rfl) (by kernel_rfl) (fun _ _ _ h => h) (Or.inl ⟨by rfl, ?hy27b⟩) (by assumption) ?re27b
  case hy27b => (intro w hSw; obtain ⟨c8, c9, c12, c13, c14, c15, c19, b8, b9, b12, b13, b14, b15, b19⟩ := HC.out w hSw; go_simp; try with_reducible rfl)
  try simp only [Act.put, sA9, sB9, sC9]
  refine' za7 33 (i := 28) (v := _) rfl rfl (by kernel_rfl) (by kernel_rfl) (by kernel_rfl) (fun _ _ _ h => h) (Or.inl ⟨by rfl, ?hy28b⟩) (by assumption) ?re28b
  case hy28b => (intro w hSw; obtain ⟨c8, c9, c12, c13, c14, c15, c19, b8, b9, b12, b13, b14, b15, b19⟩ := HC.out w hSw; go_simp; try with_reducible rfl)
  try simp only [Act.put, sA9, sB9, sC9]
  refine' zax 34 (i := 29) rfl rfl (by kernel_rfl) (by kernel_rfl) (by kernel_rfl) (fun _ _ _ h => h) (by rfl) (by assumption) ?re29b
  try simp only [Act.put, sA9, sB9, sC9]
  refine' zax 35 (i := 30) rfl rfl (by kernel_rfl) (by kernel_rfl) (by kernel_rfl) (fun _ _ _ h => h) (by rfl) (by assumption) ?re30b
  try simp only [Act.put, sA9, sB9, sC9]
  refine' zax 36 (i := 31) rfl rfl (by kernel_rfl) (by kernel_rfl) (by kernel_rfl) (fun _ _ _ h => h) (by rfl) (by assumption) ?re31b
  try simp only [Act.put, sA9, sB9, sC9]
  refine' zax 37 (i := 32) rfl rfl (by kernel_rfl) (by kernel_rfl) (by kernel_rfl) (fun _ _ _ h => h) (by rfl) (by assumption) ?re32b
  try simp only [Act.put, sA9, sB9, sC9]
  refine' zax 38 (i := 33) rfl rfl (by kernel_rfl) (by kernel_rfl) (by kernel_rfl) (fun _ _ _ h => h) (by rfl) (by assumption) ?re33b
  try simp only [Act.put, sA9, sB9, sC9]
  refine' za7 39 (i := 34) (v := _) rfl rfl (by kernel_rfl) (by kernel_rfl) (by kernel_rfl) (fun _ _ _ h => h) (Or.inl ⟨by rfl, ?hy34b⟩) (by assumption) ?re34b
  case hy34b => (intro w hSw; obtain ⟨c8, c9, c12, c13, c14, c15, c19, b8, b9, b12, b13, b14, b15, b19⟩ := HC.out w hSw; go_simp; try with_reducible rfl)
  try simp only [Act.put, sA9, sB9, sC9]
  refine' za7 4 (i := 35) (v := _) rfl rfl (by kernel_rfl) (by kernel_rfl) (by kernel_rfl) (fun _ _ _ h => h) (Or.inl ⟨by rfl, ?hy35b⟩) (by assumption) ?re35b
  case hy35b => (intro w hSw; obtain ⟨c8, c9, c12, c13, c14, c15, c19, b8, b9, b12, b13, b14, b15, b19⟩ := HC.out w hSw; go_simp; try with_reducible rfl)
  try simp only [Act.put, sA9, sB9, sC9]
  refine wpAnyH_done (by kernel_rfl) ?_ _
  go_wp2_with fail
  go_ret
  exact ⟨rfl, pw.tr R3⟩
 | true =>
 cases d2 with
 | false =>
  go_enter Tryz.func37, Tryz.ntmps37
  go_upto_region 1 with (fail)
  rw [← HY.out, ← HX.out, ← HW0.out, ← HW1.out]
  refine wp_region_held_drew (S := fun w' => Nw W1 w') (by kernel_rfl) QQ (fun hHeld => ?_)
  refine' za7 5 (i := 0) (v := _) rfl rfl (by kernel_rfl) (by kernel_rfl) (by kernel_rfl) (fun _ _ _ h => h) (yieldsIf_load_mid (by rfl) _ _ rfl _ _ rfl _ _ (fun w q => HRX.out w q) Tryz.underlying50 rfl (by kernel_rfl)) (by assumption) ?re0c
  try simp only [Act.put, sA9, sB9, sC9]
  refine' za7 7 (i := 2) (v := _) rfl rfl (by kernel_rfl) (by kernel_rfl) (by kernel_rfl) (fun _ _ _ h => h) (yieldsIf_load_mid (by rfl) _ _ rfl _ _ rfl _ _ (fun w q => HRY.out w q) Tryz.underlying50 rfl (by kernel_rfl)) (by assumption) ?re2c
  try simp only [Act.put, sA9, sB9, sC9]
  refine zbr 6 83 #[.agg (letA x)] (i := 1) rfl rfl (by kernel_rfl) (by rfl) ?he1c ?hc1c
  case he1c => (intro w; go_simp; try with_reducible rfl)
  refine (ZX.out _ QQ).mono ?_
  rintro e w1 ⟨g1, rfl, _, _, l1, q1⟩
  have R1 := QQ.tr q1
  refine ⟨_, rfl, R1, ?_⟩
  try simp only [Act.put, sA9, sB9, sC9]
  refine zbr 8 83 #[.agg (letA y)] (i := 3) rfl rfl (by kernel_rfl) (by rfl) ?he3c ?hc3c
  case he3c => (intro w; go_simp; try with_reducible rfl)
  refine (ZY.out w1 R1).mono ?_
  rintro e w2 ⟨g2, rfl, _, _, l2, q2⟩
  have R2 := R1.tr q2
  refine ⟨_, rfl, R2, ?_⟩
  try simp only [Act.put, sA9, sB9, sC9]
  refine zbr 9 82 #[.slice (some ⟨g1, 0, none⟩) 13 13, .slice (some ⟨g2, 0, none⟩) 13 13] (i := 4) rfl rfl (by kernel_rfl) (by rfl) ?he4c ?hc4c
  case he4c => (intro w; go_simp; try with_reducible rfl)
  refine (Z1.out w2 _ _ g1 g2 (l1.fr q2 (fun _ _ h => h)) l2).mono ?_
  rintro e w3 ⟨rfl, q3⟩
  have R3 := R2.tr q3
  refine ⟨_, rfl, R3, ?_⟩
  try simp only [Act.put, sA9, sB9, sC9]
  refine' za7 10 (i := 5) (v := _) rfl rfl (by kernel_rfl) (by kernel_rfl) (by kernel_rfl) (fun _ _ _ h => h) (Or.inl ⟨by rfl, ?hy5c⟩) (by assumption) ?re5c
  case hy5c => (intro w hSw; obtain ⟨c8, c9, c12, c13, c14, c15, c19, b8, b9, b12, b13, b14, b15, b19⟩ := HC.out w hSw; go_simp; try with_reducible rfl)
  try simp only [Act.put, sA9, sB9, sC9]
  refine' za7 11 (i := 6) (v := _) rfl rfl (by kernel_rfl) (by kernel_rfl) (by kernel_rfl) (fun _ _ _ h => h) (Or.inl ⟨by rfl, ?hy6c⟩) (by assumption) ?re6c
  case hy6c => (intro w hSw; obtain ⟨c8, c9, c12, c13, c14, c15, c19, b8, b9, b12, b13, b14, b15, b19⟩ := HC.out w hSw; go_simp; try with_reducible rfl)
  try simp only [Act.put, sA9, sB9, sC9]
  refine' za7 12 (i := 7) (v := _) rfl rfl (by kernel_rfl) (by kernel_rfl) (by kernel_rfl) (fun _ _ _ h => h) (Or.inl ⟨by rfl, ?hy7c⟩) (by assumption) ?re7c
  case hy7c => (intro w hSw; obtain ⟨c8, c9, c12, c13, c14, c15, c19, b8, b9, b12, b13, b14, b15, b19⟩ := HC.out w hSw; go_simp; try with_reducible rfl)
  try simp only [Act.put, sA9, sB9, sC9]
  refine' za7 13 (i := 8) (v := _) rfl rfl (by kernel_rfl) (by kernel_rfl) (by kernel_rfl) (fun _ _ _ h => h) (Or.inl ⟨by rfl, ?hy8c⟩) (by assumption) ?re8c
  case hy8c => (intro w hSw; obtain ⟨c8, c9, c12, c13, c14, c15, c19, b8, b9, b12, b13, b14, b15, b19⟩ := HC.out w hSw; go_simp; try with_reducible rfl)
  try simp only [Act.put, sA9, sB9, sC9]
  refine' za7 14 (i := 9) (v := _) rfl rfl (by kernel_rfl) (by kernel_rfl) (by kernel_rfl) (fun _ _ _ h => h) (Or.inl ⟨by rfl, ?hy9c⟩) (by assumption) ?re9c
  case hy9c => (intro w hSw; obtain ⟨c8, c9, c12, c13, c14, c15, c19, b8, b9, b12, b13, b14, b15, b19⟩ := HC.out w hSw; go_simp; try with_reducible rfl)
  try simp only [Act.put, sA9, sB9, sC9]
  refine' za7 15 (i := 10) (v := _) rfl rfl (by kernel_rfl) (by kernel_rfl) (by kernel_rfl) (fun _ _ _ h => h) (Or.inl ⟨by rfl, ?hy10c⟩) (by assumption) ?re10c
  case hy10c => (intro w hSw; obtain ⟨c8, c9, c12, c13, c14, c15, c19, b8, b9, b12, b13, b14, b15, b19⟩ := HC.out w hSw; go_simp; try with_reducible rfl)
  try simp only [Act.put, sA9, sB9, sC9]
  refine' za7 16 (i := 11) (v := _) rfl rfl (by kernel_rfl) (by kernel_rfl) (by kernel_rfl) (fun _ _ _ h => h) (Or.inl ⟨by rfl, ?hy11c⟩) (by assumption) ?re11c
  case hy11c => (intro w hSw; obtain ⟨c8, c9, c12, c13, c14, c15, c19, b8, b9, b12, b13, b14, b15, b19⟩ := HC.out w hSw; go_simp; try with_reducible rfl)
  try simp only [Act.put, sA9, sB9, sC9]
  refine' za7 17 (i := 12) (v := _) rfl rfl (by kernel_rfl) (by kernel_rfl) (by kernel_rfl) (fun _ _ _ h => h) (Or.inl ⟨by rfl, ?hy12c⟩) (by assumption) ?re12c
  case hy12c => (intro w hSw; obtain ⟨c8, c9, c12, c13, c14, c15, c19, b8, b9, b12, b13, b14, b15, b19⟩ := HC.out w hSw; go_simp; try with_reducible rfl)
  try simp only [Act.put, sA9, sB9, sC9]
  refine' zax 18 (i := 13) rfl rfl (by kernel_rfl) (by kernel_rfl) (by kernel_rfl) (fun _ _ _ h => h) (by rfl) (by assumption) ?re13c
  try simp only [Act.put, sA9, sB9, sC9]
  refine' zax 19 (i := 14) rfl rfl (by kernel_rfl) (by kernel_rfl) (by kernel_rfl) (fun _ _ _ h => h) (by rfl) (by assumption) ?re14c
  try simp only [Act.put, sA9, sB9, sC9]
  refine' zax 20 (i := 15) rfl rfl (by kernel_rfl) (by kernel_rfl) (by kernel_rfl) (fun _ _ _ h => h) (by rfl) (by assumption) ?re15c
  try simp only [Act.put, sA9, sB9, sC9]
  refine' zax 21 (i := 16) rfl rfl (by kernel_rfl) (by kernel_rfl) (by kernel_rfl) (fun _ _ _ h => h) (by rfl) (by assumption) ?re16c
  try simp only [Act.put, sA9, sB9, sC9]
  refine' zax 22 (i := 17) rfl rfl (by kernel_rfl) (by kernel_rfl) (by kernel_rfl) (fun _ _ _ h => h) (by rfl) (by assumption) ?re17c
  try simp only [Act.put, sA9, sB9, sC9]
  refine' za7 23 (i := 18) (v := _) rfl rfl (by kernel_rfl) (by kernel_rfl) (by kernel_rfl) (fun _ _ _ h => h) (Or.inl ⟨by rfl, ?hy18c⟩) (by assumption) ?re18c
  case hy18c => (intro w hSw; obtain ⟨c8, c9, c12, c13, c14, c15, c19, b8, b9, b12, b13, b14, b15, b19⟩ := HC.out w hSw; go_simp; try with_reducible rfl)
  try simp only [Act.put, sA9, sB9, sC9]
  refine' za7 24 (i := 19) (v := _) rfl rfl (by kernel_rfl) (by kernel_rfl) (by kernel_rfl) (fun _ _ _ h => h) (Or.inl ⟨by rfl, ?hy19c⟩) (by assumption) ?re19c
  case hy19c => (intro w hSw; obtain ⟨c8, c9, c12, c13, c14, c15, c19, b8, b9, b12, b13, b14, b15, b19⟩ := HC.out w hSw; go_simp; try with_reducible rfl)
  try simp only [Act.put, sA9, sB9, sC9]
  refine' zax 25 (i := 20) rfl rfl (by kernel_rfl) (by kernel_rfl) (by kernel_rfl) (fun _ _ _ h => h) (by rfl) (by assumption) ?re20c
  try simp only [Act.put, sA9, sB9, sC9]
  refine' zax 26 (i := 21) rfl rfl (by kernel_rfl) (by kernel_rfl) (by kernel_rfl) (fun _ _ _ h => h) (by rfl) (by assumption) ?re21c
  try simp only [Act.put, sA9, sB9, sC9]
  refine' zax 27 (i := 22) rfl rfl (by kernel_rfl) (by kernel_rfl) (by kernel_rfl) (fun _ _ _ h => h) (by rfl) (by assumption) ?re22c
  try simp only [Act.put, sA9, sB9, sC9]
  refine' zax 28 (i := 23) rfl rfl (by kernel_rfl) (by kernel_rfl) (by kernel_rfl) (fun _ _ _ h => h) (by rfl) (by assumption) ?re23c
  try simp only [Act.put, sA9, sB9, sC9]
  refine' zax 29 (i := 24) rfl rfl (by kernel_rfl) (by kernel_rfl) (by kernel_rfl) (fun _ _ _ h => h) (by rfl) (by assumption) ?re24c
  try simp only [Act.put, sA9, sB9, sC9]
  refine' zax 30 (i := 25) rfl rfl (by kernel_rfl) (by kernel_rfl) (by kernel_rfl) (fun _ _ _ h => h) (by rfl) (by assumption) ?re25c
  try simp only [Act.put, sA9, sB9, sC9]
  refine' zax 31 (i := 26) rfl rfl (by kernel_rfl) (by kernel_rfl) (by kernel_rfl) (fun _ _ _ h => h) (by rfl) (by assumption) ?re26c
  try simp only [Act.put, sA9, sB9, sC9]
  refine' za7 32 (i := 27) (v := _) rfl rfl (by kernel_rfl) (by kernel_rfl) (by kernel_rfl) (fun _ _ _ h => h) (Or.inl ⟨by rfl, ?hy27c⟩) (by assumption) ?re27c
  case hy27c => (intro w hSw; obtain ⟨c8, c9, c12, c13, c14, c15, c19, b8, b9, b12, b13, b14, b15, b19⟩ := HC.out w hSw; go_simp; try with_reducible rfl)
  try simp only [Act.put, sA9, sB9, sC9]
  refine' za7 33 (i := 28) (v := _) rfl rfl (by kernel_rfl) (by kernel_rfl) (by kernel_rfl) (fun _ _ _ h => h) (Or.inl ⟨by rfl, ?hy28c⟩) (by assumption) ?re28c
  case hy28c => (intro w hSw; obtain ⟨c8, c9, c12, c13, c14, c15, c19, b8, b9, b12, b13, b14, b15, b19⟩ := HC.out w hSw; go_simp; try with_reducible rfl)
  try simp only [Act.put, sA9, sB9, sC9]
  refine' zax 34 (i := 29) rfl rfl (by kernel_rfl) (by kernel_rfl) (by kernel_rfl) (fun _ _ _ h => h) (by rfl) (by assumption) ?re29c
  try simp only [Act.put, sA9, sB9, sC9]
  refine' zax 35 (i := 30) rfl rfl (by kernel_rfl) (by kernel_rfl) (by kernel_rfl) (fun _ _ _ h => h) (by rfl) (by assumption) ?re30c
  try simp only [Act.put, sA9, sB9, sC9]
  refine' zax 36 (i := 31) rfl rfl (by kernel_rfl) (by kernel_rfl) (by kernel_rfl) (fun _ _ _ h => h) (by rfl) (by assumption) ?re31c
  try simp only [Act.put, sA9, sB9, sC9]
  refine' zax 37 (i := 32) rfl rfl (by kernel_rfl) (by kernel_rfl) (by kernel_rfl) (fun _ _ _ h => h) (by rfl) (by assumption) ?re32c
  try simp only [Act.put, sA9, sB9, sC9]
  refine' zax 38 (i := 33) rfl rfl (by kernel_rfl) (by kernel_rfl) (by kernel_rfl) (fun _ _ _ h => h) (by rfl) (by assumption) ?re33c
  try simp only [Act.put, sA9, sB9, sC9]
  refine' za7 39 (i := 34) (v := _) rfl rfl (by kernel_rfl) (by kernel_rfl) (by kernel_rfl) (fun _ _ _ h => h) (Or.inl ⟨by rfl, ?hy34c⟩) (by assumption) ?re34c
  case hy34c => (intro w hSw; obtain ⟨c8, c9, c12, c13, c14, c15, c19, b8, b9, b12, b13, b14, b15, b19⟩ := HC.out w hSw; go_simp; try with_reducible rfl)
  try simp only [Act.put, sA9, sB9, sC9]
  refine' za7 4 (i := 35) (v := _) rfl rfl (by kernel_rfl) (by kernel_rfl) (by kernel_rfl) (fun _ _ _ h => h) (Or.inl ⟨by rfl, ?hy35c⟩) (by assumption) ?re35c
  case hy35c => (intro w hSw; obtain ⟨c8, c9, c12, c13, c14, c15, c19, b8, b9, b12, b13, b14, b15, b19⟩ := HC.out w hSw; go_simp; try with_reducible rfl)
  try simp only [Act.put, sA9, sB9, sC9]
  refine wpAnyH_done (by kernel_rfl) ?_ _
  go_wp2_with fail
  go_ret
  exact ⟨rfl, pw.tr R3⟩
 | true =>
 cases d3 with
 | false =>
  go_enter Tryz.func37, Tryz.ntmps37
  go_upto_region 1 with (fail)
  rw [← HY.out, ← HX.out, ← HW0.out, ← HW1.out]
  refine wp_region_held_drew (S := fun w' => Nw W1 w') (by kernel_rfl) QQ (fun hHeld => ?_)
  refine' za7 5 (i := 0) (v := _) rfl rfl (by kernel_rfl) (by kernel_rfl) (by kernel_rfl) (fun _ _ _ h => h) (yieldsIf_load_mid (by rfl) _ _ rfl _ _ rfl _ _ (fun w q => HRX.out w q) Tryz.underlying50 rfl (by kernel_rfl)) (by assumption) ?re0d
  try simp only [Act.put, sA9, sB9, sC9]
  refine' za7 7 (i := 2) (v := _) rfl rfl (by kernel_rfl) (by kernel_rfl) (by kernel_rfl) (fun _ _ _ h => h) (yieldsIf_load_mid (by rfl) _ _ rfl _ _ rfl _ _ (fun w q => HRY.out w q) Tryz.underlying50 rfl (by kernel_rfl)) (by assumption) ?re2d
  try simp only [Act.put, sA9, sB9, sC9]
  refine zbr 6 83 #[.agg (letA x)] (i := 1) rfl rfl (by kernel_rfl) (by rfl) ?he1d ?hc1d
  case he1d => (intro w; go_simp; try with_reducible rfl)
  refine (ZX.out _ QQ).mono ?_
  rintro e w1 ⟨g1, rfl, _, _, l1, q1⟩
  have R1 := QQ.tr q1
  refine ⟨_, rfl, R1, ?_⟩
  try simp only [Act.put, sA9, sB9, sC9]
  refine zbr 8 83 #[.agg (letA y)] (i := 3) rfl rfl (by kernel_rfl) (by rfl) ?he3d ?hc3d
  case he3d => (intro w; go_simp; try with_reducible rfl)
  refine (ZY.out w1 R1).mono ?_
  rintro e w2 ⟨g2, rfl, _, _, l2, q2⟩
  have R2 := R1.tr q2
  refine ⟨_, rfl, R2, ?_⟩
  try simp only [Act.put, sA9, sB9, sC9]
  refine zbr 9 82 #[.slice (some ⟨g1, 0, none⟩) 13 13, .slice (some ⟨g2, 0, none⟩) 13 13] (i := 4) rfl rfl (by kernel_rfl) (by rfl) ?he4d ?hc4d
  case he4d => (intro w; go_simp; try with_reducible rfl)
  refine (Z1.out w2 _ _ g1 g2 (l1.fr q2 (fun _ _ h => h)) l2).mono ?_
  rintro e w3 ⟨rfl, q3⟩
  have R3 := R2.tr q3
  refine ⟨_, rfl, R3, ?_⟩
  try simp only [Act.put, sA9, sB9, sC9]
  refine' za7 10 (i := 5) (v := _) rfl rfl (by kernel_rfl) (by kernel_rfl) (by kernel_rfl) (fun _ _ _ h => h) (Or.inl ⟨by rfl, ?hy5d⟩) (by assumption) ?re5d
  case hy5d => (intro w hSw; obtain ⟨c8, c9, c12, c13, c14, c15, c19, b8, b9, b12, b13, b14, b15, b19⟩ := HC.out w hSw; go_simp; try with_reducible rfl)
  try simp only [Act.put, sA9, sB9, sC9]
  refine' za7 11 (i := 6) (v := _) rfl rfl (by kernel_rfl) (by kernel_rfl) (by kernel_rfl) (fun _ _ _ h => h) (Or.inl ⟨by rfl, ?hy6d⟩) (by assumption) ?re6d
  case hy6d => (intro w hSw; obtain ⟨c8, c9, c12, c13, c14, c15, c19, b8, b9, b12, b13, b14, b15, b19⟩ := HC.out w hSw; go_simp; try with_reducible rfl)
  try simp only [Act.put, sA9, sB9, sC9]
  refine' za7 12 (i := 7) (v := _) rfl rfl (by kernel_rfl) (by kernel_rfl) (by kernel_rfl) (fun _ _ _ h => h) (Or.inl ⟨by rfl, ?hy7d⟩) (by assumption) ?re7d
  case hy7d => (intro w hSw; obtain ⟨c8, c9, c12, c13, c14, c15, c19, b8, b9, b12, b13, b14, b15, b19⟩ := HC.out w hSw; go_simp; try with_reducible rfl)
  try simp only [Act.put, sA9, sB9, sC9]
  refine' za7 13 (i := 8) (v := _) rfl rfl (by kernel_rfl) (by kernel_rfl) (by kernel_rfl) (fun _ _ _ h => h) (Or.inl ⟨by rfl, ?hy8d⟩) (by assumption) ?re8d
  case hy8d => (intro w hSw; obtain ⟨c8, c9, c12, c13, c14, c15, c19, b8, b9, b12, b13, b14, b15, b19⟩ := HC.out w hSw; go_simp; try with_reducible rfl)
  try simp only [Act.put, sA9, sB9, sC9]
  refine' za7 14 (i := 9) (v := _) rfl rfl (by kernel_rfl) (by kernel_rfl) (by kernel_rfl) (fun _ _ _ h => h) (Or.inl ⟨by rfl, ?hy9d⟩) (by assumption) ?re9d
  case hy9d => (intro w hSw; obtain ⟨c8, c9, c12, c13, c14, c15, c19, b8, b9, b12, b13, b14, b15, b19⟩ := HC.out w hSw; go_simp; try with_reducible rfl)
  try simp only [Act.put, sA9, sB9, sC9]
  refine' za7 15 (i := 10) (v := _) rfl rfl (by kernel_rfl) (by kernel_rfl) (by kernel_rfl) (fun _ _ _ h => h) (Or.inl ⟨by rfl, ?hy10d⟩) (by assumption) ?re10d
  case hy10d => (intro w hSw; obtain ⟨c8, c9, c12, c13, c14, c15, c19, b8, b9, b12, b13, b14, b15, b19⟩ := HC.out w hSw; go_simp; try with_reducible rfl)
  try simp only [Act.put, sA9, sB9, sC9]
  refine' za7 16 (i := 11) (v := _) rfl rfl (by kernel_rfl) (by kernel_rfl) (by kernel_rfl) (fun _ _ _ h => h) (Or.inl ⟨by rfl, ?hy11d⟩) (by assumption) ?re11d
  case hy11d => (intro w hSw; obtain ⟨c8, c9, c12, c13, c14, c15, c19, b8, b9, b12, b13, b14, b15, b19⟩ := HC.out w hSw; go_simp; try with_reducible rfl)
  try simp only [Act.put, sA9, sB9, sC9]
  refine' za7 17 (i := 12) (v := _) rfl rfl (by kernel_rfl) (by kernel_rfl) (by kernel_rfl) (fun _ _ _ h => h) (Or.inl ⟨by rfl, ?hy12d⟩) (by assumption) ?re12d
  case hy12d => (intro w hSw; obtain ⟨c8, c9, c12, c13, c14, c15, c19, b8, b9, b12, b13, b14, b15, b19⟩ := HC.out w hSw; go_simp; try with_reducible rfl)
  try simp only [Act.put, sA9, sB9, sC9]
  refine' za7 18 (i := 13) (v := _) rfl rfl (by kernel_rfl) (by kernel_rfl) (by kernel_rfl) (fun _ _ _ h => h) (Or.inl ⟨by rfl, ?hy13d⟩) (by assumption) ?re13d
  case hy13d => (intro w hSw; obtain ⟨c8, c9, c12, c13, c14, c15, c19, b8, b9, b12, b13, b14, b15, b19⟩ := HC.out w hSw; go_simp; try with_reducible rfl)
  try simp only [Act.put, sA9, sB9, sC9]
  refine' za7 19 (i := 14) (v := _) rfl rfl (by kernel_rfl) (by kernel_rfl) (by kernel_rfl) (fun _ _ _ h => h) (Or.inl ⟨by rfl, ?hy14d⟩) (by assumption) ?re14d
  case hy14d => (intro w hSw; obtain ⟨c8, c9, c12, c13, c14, c15, c19, b8, b9, b12, b13, b14, b15, b19⟩ := HC.out w hSw; go_simp; try with_reducible rfl)
  try simp only [Act.put, sA9, sB9, sC9]
  refine' za7 20 (i := 15) (v := _) rfl rfl (by kernel_rfl) (by kernel_rfl) (by kernel_rfl) (fun _ _ _ h => h) (Or.inl ⟨by rfl, ?hy15d⟩) (by assumption) ?re15d
  case hy15d => (intro w hSw; obtain ⟨c8, c9, c12, c13, c14, c15, c19, b8, b9, b12, b13, b14, b15, b19⟩ := HC.out w hSw; go_simp; try with_reducible rfl)
  try simp only [Act.put, sA9, sB9, sC9]
  refine' za7 21 (i := 16) (v := _) rfl rfl (by kernel_rfl) (by kernel_rfl) (by kernel_rfl) (fun _ _ _ h => h) (Or.inl ⟨by rfl, ?hy16d⟩) (by assumption) ?re16d
  case hy16d => (intro w hSw; obtain ⟨c8, c9, c12, c13, c14, c15, c19, b8, b9, b12, b13, b14, b15, b19⟩ := HC.out w hSw; go_simp; try with_reducible rfl)
  try simp only [Act.put, sA9, sB9, sC9]
  refine zbr 22 84 #[.slice x.ents.a x.ents.l.length x.ents.c, .slice y.ents.a y.ents.l.length y.ents.c, .func (.func 85) #[] #[]] (i := 17) rfl rfl (by kernel_rfl) (by rfl) ?he17d ?hc17d
  case he17d => (intro w; go_simp; try with_reducible rfl)
  refine (Z3.out w3 R3).mono ?_
  rintro e w4 ⟨rfl, q4⟩
  have R4 := R3.tr q4
  refine ⟨_, rfl, R4, ?_⟩
  try simp only [Act.put, sA9, sB9, sC9]
  refine' za7 23 (i := 18) (v := _) rfl rfl (by kernel_rfl) (by kernel_rfl) (by kernel_rfl) (fun _ _ _ h => h) (Or.inl ⟨by rfl, ?hy18d⟩) (by assumption) ?re18d
  case hy18d => (intro w hSw; obtain ⟨c8, c9, c12, c13, c14, c15, c19, b8, b9, b12, b13, b14, b15, b19⟩ := HC.out w hSw; go_simp; try with_reducible rfl)
  try simp only [Act.put, sA9, sB9, sC9]
  refine' za7 24 (i := 19) (v := _) rfl rfl (by kernel_rfl) (by kernel_rfl) (by kernel_rfl) (fun _ _ _ h => h) (Or.inl ⟨by rfl, ?hy19d⟩) (by assumption) ?re19d
  case hy19d => (intro w hSw; obtain ⟨c8, c9, c12, c13, c14, c15, c19, b8, b9, b12, b13, b14, b15, b19⟩ := HC.out w hSw; go_simp; try with_reducible rfl)
  try simp only [Act.put, sA9, sB9, sC9]
  refine' zax 25 (i := 20) rfl rfl (by kernel_rfl) (by kernel_rfl) (by kernel_rfl) (fun _ _ _ h => h) (by rfl) (by assumption) ?re20d
  try simp only [Act.put, sA9, sB9, sC9]
  refine' zax 26 (i := 21) rfl rfl (by kernel_rfl) (by kernel_rfl) (by kernel_rfl) (fun _ _ _ h => h) (by rfl) (by assumption) ?re21d
  try simp only [Act.put, sA9, sB9, sC9]
  refine' zax 27 (i := 22) rfl rfl (by kernel_rfl) (by kernel_rfl) (by kernel_rfl) (fun _ _ _ h => h) (by rfl) (by assumption) ?re22d
  try simp only [Act.put, sA9, sB9, sC9]
  refine' zax 28 (i := 23) rfl rfl (by kernel_rfl) (by kernel_rfl) (by kernel_rfl) (fun _ _ _ h => h) (by rfl) (by assumption) ?re23d
  try simp only [Act.put, sA9, sB9, sC9]
  refine' zax 29 (i := 24) rfl rfl (by kernel_rfl) (by kernel_rfl) (by kernel_rfl) (fun _ _ _ h => h) (by rfl) (by assumption) ?re24d
  try simp only [Act.put, sA9, sB9, sC9]
  refine' zax 30 (i := 25) rfl rfl (by kernel_rfl) (by kernel_rfl) (by kernel_rfl) (fun _ _ _ h => h) (by rfl) (by assumption) ?re25d
  try simp only [Act.put, sA9, sB9, sC9]
  refine' zax 31 (i := 26) rfl rfl (by kernel_rfl) (by kernel_rfl) (by kernel_rfl) (fun _ _ _ h => h) (by rfl) (by assumption) ?re26d
  try simp only [Act.put, sA9, sB9, sC9]
  refine' za7 32 (i := 27) (v := _) rfl rfl (by kernel_rfl) (by kernel_rfl) (by kernel_rfl) (fun _ _ _ h => h) (Or.inl ⟨by rfl, ?hy27d⟩) (by assumption) ?re27d
  case hy27d => (intro w hSw; obtain ⟨c8, c9, c12, c13, c14, c15, c19, b8, b9, b12, b13, b14, b15, b19⟩ := HC.out w hSw; go_simp; try with_reducible rfl)
  try simp only [Act.put, sA9, sB9, sC9]
  refine' za7 33 (i := 28) (v := _) rfl rfl (by kernel_rfl) (by kernel_rfl) (by kernel_rfl) (fun _ _ _ h => h) (Or.inl ⟨by rfl, ?hy28d⟩) (by assumption) ?re28d
  case hy28d => (intro w hSw; obtain ⟨c8, c9, c12, c13, c14, c15, c19, b8, b9, b12, b13, b14, b15, b19⟩ := HC.out w hSw; go_simp; try with_reducible rfl)
  try simp only [Act.put, sA9, sB9, sC9]
  refine' zax 34 (i := 29) rfl rfl (by kernel_rfl) (by kernel_rfl) (by kernel_rfl) (fun _ _ _ h => h) (by rfl) (by assumption) ?re29d
  try simp only [Act.put, sA9, sB9, sC9]
  refine' zax 35 (i := 30) rfl rfl (by kernel_rfl) (by kernel_rfl) (by kernel_rfl) (fun _ _ _ h => h) (by rfl) (by assumption) ?re30d
  try simp only [Act.put, sA9, sB9, sC9]
  refine' zax 36 (i := 31) rfl rfl (by kernel_rfl) (by kernel_rfl) (by kernel_rfl) (fun _ _ _ h => h) (by rfl) (by assumption) ?re31d
  try simp only [Act.put, sA9, sB9, sC9]
  refine' zax 37 (i := 32) rfl rfl (by kernel_rfl) (by kernel_rfl) (by kernel_rfl) (fun _ _ _ h => h) (by rfl) (by assumption) ?re32d
  try simp only [Act.put, sA9, sB9, sC9]
  refine' zax 38 (i := 33) rfl rfl (by kernel_rfl) (by kernel_rfl) (by kernel_rfl) (fun _ _ _ h => h) (by rfl) (by assumption) ?re33d
  try simp only [Act.put, sA9, sB9, sC9]
  refine' za7 39 (i := 34) (v := _) rfl rfl (by kernel_rfl) (by kernel_rfl) (by kernel_rfl) (fun _ _ _ h => h) (Or.inl ⟨by rfl, ?hy34d⟩) (by assumption) ?re34d
  case hy34d => (intro w hSw; obtain ⟨c8, c9, c12, c13, c14, c15, c19, b8, b9, b12, b13, b14, b15, b19⟩ := HC.out w hSw; go_simp; try with_reducible rfl)
  try simp only [Act.put, sA9, sB9, sC9]
  refine' za7 4 (i := 35) (v := _) rfl rfl (by kernel_rfl) (by kernel_rfl) (by kernel_rfl) (fun _ _ _ h => h) (Or.inl ⟨by rfl, ?hy35d⟩) (by assumption) ?re35d
  case hy35d => (intro w hSw; obtain ⟨c8, c9, c12, c13, c14, c15, c19, b8, b9, b12, b13, b14, b15, b19⟩ := HC.out w hSw; go_simp; try with_reducible rfl)
  try simp only [Act.put, sA9, sB9, sC9]
  refine wpAnyH_done (by kernel_rfl) ?_ _
  go_wp2_with fail
  go_ret
  exact ⟨rfl, pw.tr R4⟩
 | true =>
 cases d4 with
 | false =>
  go_enter Tryz.func37, Tryz.ntmps37
  go_upto_region 1 with (fail)
  rw [← HY.out, ← HX.out, ← HW0.out, ← HW1.out]
  refine wp_region_held_drew (S := fun w' => Nw W1 w') (by kernel_rfl) QQ (fun hHeld => ?_)
  refine' za7 5 (i := 0) (v := _) rfl rfl (by kernel_rfl) (by kernel_rfl) (by kernel_rfl) (fun _ _ _ h => h) (yieldsIf_load_mid (by rfl) _ _ rfl _ _ rfl _ _ (fun w q => HRX.out w q) Tryz.underlying50 rfl (by kernel_rfl)) (by assumption) ?re0e
  try simp only [Act.put, sA9, sB9, sC9]
  refine' za7 7 (i := 2) (v := _) rfl rfl (by kernel_rfl) (by kernel_rfl) (by kernel_rfl) (fun _ _ _ h => h) (yieldsIf_load_mid (by rfl) _ _ rfl _ _ rfl _ _ (fun w q => HRY.out w q) Tryz.underlying50 rfl (by kernel_rfl)) (by assumption) ?re2e
  try simp only [Act.put, sA9, sB9, sC9]
  refine zbr 6 83 #[.agg (letA x)] (i := 1) rfl rfl (by kernel_rfl) (by rfl) ?he1e ?hc1e
  case he1e => (intro w; go_simp; try with_reducible rfl)
  refine (ZX.out _ QQ).mono ?_
  rintro e w1 ⟨g1, rfl, _, _, l1, q1⟩
  have R1 := QQ.tr q1
  refine ⟨_, rfl, R1, ?_⟩
  try simp only [Act.put, sA9, sB9, sC9]
  refine zbr 8 83 #[.agg (letA y)] (i := 3) rfl rfl (by kernel_rfl) (by rfl) ?he3e ?hc3e
  case he3e => (intro w; go_simp; try with_reducible rfl)
  refine (ZY.out w1 R1).mono ?_
  rintro e w2 ⟨g2, rfl, _, _, l2, q2⟩
  have R2 := R1.tr q2
  refine ⟨_, rfl, R2, ?_⟩
  try simp only [Act.put, sA9, sB9, sC9]
  refine zbr 9 82 #[.slice (some ⟨g1, 0, none⟩) 13 13, .slice (some ⟨g2, 0, none⟩) 13 13] (i := 4) rfl rfl (by kernel_rfl) (by rfl) ?he4e ?hc4e
  case he4e => (intro w; go_simp; try with_reducible rfl)
  refine (Z1.out w2 _ _ g1 g2 (l1.fr q2 (fun _ _ h => h)) l2).mono ?_
  rintro e w3 ⟨rfl, q3⟩
  have R3 := R2.tr q3
  refine ⟨_, rfl, R3, ?_⟩
  try simp only [Act.put, sA9, sB9, sC9]
  refine' za7 10 (i := 5) (v := _) rfl rfl (by kernel_rfl) (by kernel_rfl) (by kernel_rfl) (fun _ _ _ h => h) (Or.inl ⟨by rfl, ?hy5e⟩) (by assumption) ?re5e
  case hy5e => (intro w hSw; obtain ⟨c8, c9, c12, c13, c14, c15, c19, b8, b9, b12, b13, b14, b15, b19⟩ := HC.out w hSw; go_simp; try with_reducible rfl)
  try simp only [Act.put, sA9, sB9, sC9]
  refine' za7 11 (i := 6) (v := _) rfl rfl (by kernel_rfl) (by kernel_rfl) (by kernel_rfl) (fun _ _ _ h => h) (Or.inl ⟨by rfl, ?hy6e⟩) (by assumption) ?re6e
  case hy6e => (intro w hSw; obtain ⟨c8, c9, c12, c13, c14, c15, c19, b8, b9, b12, b13, b14, b15, b19⟩ := HC.out w hSw; go_simp; try with_reducible rfl)
  try simp only [Act.put, sA9, sB9, sC9]
  refine' za7 12 (i := 7) (v := _) rfl rfl (by kernel_rfl) (by kernel_rfl) (by kernel_rfl) (fun _ _ _ h => h) (Or.inl ⟨by rfl, ?hy7e⟩) (by assumption) ?re7e
  case hy7e => (intro w hSw; obtain ⟨c8, c9, c12, c13, c14, c15, c19, b8, b9, b12, b13, b14, b15, b19⟩ := HC.out w hSw; go_simp; try with_reducible rfl)
  try simp only [Act.put, sA9, sB9, sC9]
  refine' za7 13 (i := 8) (v := _) rfl rfl (by kernel_rfl) (by kernel_rfl) (by kernel_rfl) (fun _ _ _ h => h) (Or.inl ⟨by rfl, ?hy8e⟩) (by assumption) ?re8e
  case hy8e => (intro w hSw; obtain ⟨c8, c9, c12, c13, c14, c15, c19, b8, b9, b12, b13, b14, b15, b19⟩ := HC.out w hSw; go_simp; try with_reducible rfl)
  try simp only [Act.put, sA9, sB9, sC9]
  refine' za7 14 (i := 9) (v := _) rfl rfl (by kernel_rfl) (by kernel_rfl) (by kernel_rfl) (fun _ _ _ h => h) (Or.inl ⟨by rfl, ?hy9e⟩) (by assumption) ?re9e
  case hy9e => (intro w hSw; obtain ⟨c8, c9, c12, c13, c14, c15, c19, b8, b9, b12, b13, b14, b15, b19⟩ := HC.out w hSw; go_simp; try with_reducible rfl)
  try simp only [Act.put, sA9, sB9, sC9]
  refine' za7 15 (i := 10) (v := _) rfl rfl (by kernel_rfl) (by kernel_rfl) (by kernel_rfl) (fun _ _ _ h => h) (Or.inl ⟨by rfl, ?hy10e⟩) (by assumption) ?re10e
  case hy10e => (intro w hSw; obtain ⟨c8, c9, c12, c13, c14, c15, c19, b8, b9, b12, b13, b14, b15, b19⟩ := HC.out w hSw; go_simp; try with_reducible rfl)
  try simp only [Act.put, sA9, sB9, sC9]
  refine' za7 16 (i := 11) (v := _) rfl rfl (by kernel_rfl) (by kernel_rfl) (by kernel_rfl) (fun _ _ _ h => h) (Or.inl ⟨by rfl, ?hy11e⟩) (by assumption) ?re11e
  case hy11e => (intro w hSw; obtain ⟨c8, c9, c12, c13, c14, c15, c19, b8, b9, b12, b13, b14, b15, b19⟩ := HC.out w hSw; go_simp; try with_reducible rfl)
  try simp only [Act.put, sA9, sB9, sC9]
  refine' za7 17 (i := 12) (v := _) rfl rfl (by kernel_rfl) (by kernel_rfl) (by kernel_rfl) (fun _ _ _ h => h) (Or.inl ⟨by rfl, ?hy12e⟩) (by assumption) ?re12e
  case hy12e => (intro w hSw; obtain ⟨c8, c9, c12, c13, c14, c15, c19, b8, b9, b12, b13, b14, b15, b19⟩ := HC.out w hSw; go_simp; try with_reducible rfl)
  try simp only [Act.put, sA9, sB9, sC9]
  refine' za7 18 (i := 13) (v := _) rfl rfl (by kernel_rfl) (by kernel_rfl) (by kernel_rfl) (fun _ _ _ h => h) (Or.inl ⟨by rfl, ?hy13e⟩) (by assumption) ?re13e
  case hy13e => (intro w hSw; obtain ⟨c8, c9, c12, c13, c14, c15, c19, b8, b9, b12, b13, b14, b15, b19⟩ := HC.out w hSw; go_simp; try with_reducible rfl)
  try simp only [Act.put, sA9, sB9, sC9]
  refine' za7 19 (i := 14) (v := _) rfl rfl (by kernel_rfl) (by kernel_rfl) (by kernel_rfl) (fun _ _ _ h => h) (Or.inl ⟨by rfl, ?hy14e⟩) (by assumption) ?re14e
  case hy14e => (intro w hSw; obtain ⟨c8, c9, c12, c13, c14, c15, c19, b8, b9, b12, b13, b14, b15, b19⟩ := HC.out w hSw; go_simp; try with_reducible rfl)
  try simp only [Act.put, sA9, sB9, sC9]
  refine' za7 20 (i := 15) (v := _) rfl rfl (by kernel_rfl) (by kernel_rfl) (by kernel_rfl) (fun _ _ _ h => h) (Or.inl ⟨by rfl, ?hy15e⟩) (by assumption) ?re15e
  case hy15e => (intro w hSw; obtain ⟨c8, c9, c12, c13, c14, c15, c19, b8, b9, b12, b13, b14, b15, b19⟩ := HC.out w hSw; go_simp; try with_reducible rfl)
  try simp only [Act.put, sA9, sB9, sC9]
  refine' za7 21 (i := 16) (v := _) rfl rfl (by kernel_rfl) (by kernel_rfl) (by kernel_rfl) (fun _ _ _ h => h) (Or.inl ⟨by rfl, ?hy16e⟩) (by assumption) ?re16e
  case hy16e => (intro w hSw; obtain ⟨c8, c9, c12, c13, c14, c15, c19, b8, b9, b12, b13, b14, b15, b19⟩ := HC.out w hSw; go_simp; try with_reducible rfl)
  try simp only [Act.put, sA9, sB9, sC9]
  refine zbr 22 84 #[.slice x.ents.a x.ents.l.length x.ents.c, .slice y.ents.a y.ents.l.length y.ents.c, .func (.func 85) #[] #[]] (i := 17) rfl rfl (by kernel_rfl) (by rfl) ?he17e ?hc17e
  case he17e => (intro w; go_simp; try with_reducible rfl)
  refine (Z3.out w3 R3).mono ?_
  rintro e w4 ⟨rfl, q4⟩
  have R4 := R3.tr q4
  refine ⟨_, rfl, R4, ?_⟩
  try simp only [Act.put, sA9, sB9, sC9]
  refine' za7 23 (i := 18) (v := _) rfl rfl (by kernel_rfl) (by kernel_rfl) (by kernel_rfl) (fun _ _ _ h => h) (Or.inl ⟨by rfl, ?hy18e⟩) (by assumption) ?re18e
  case hy18e => (intro w hSw; obtain ⟨c8, c9, c12, c13, c14, c15, c19, b8, b9, b12, b13, b14, b15, b19⟩ := HC.out w hSw; go_simp; try with_reducible rfl)
  try simp only [Act.put, sA9, sB9, sC9]
  refine' za7 24 (i := 19) (v := _) rfl rfl (by kernel_rfl) (by kernel_rfl) (by kernel_rfl) (fun _ _ _ h => h) (Or.inl ⟨by rfl, ?hy19e⟩) (by assumption) ?re19e
  case hy19e => (intro w hSw; obtain ⟨c8, c9, c12, c13, c14, c15, c19, b8, b9, b12, b13, b14, b15, b19⟩ := HC.out w hSw; go_simp; try with_reducible rfl)
  try simp only [Act.put, sA9, sB9, sC9]
  refine' za7 25 (i := 20) (v := _) rfl rfl (by kernel_rfl) (by kernel_rfl) (by kernel_rfl) (fun _ _ _ h => h) (Or.inl ⟨by rfl, ?hy20e⟩) (by assumption) ?re20e
  case hy20e => (intro w hSw; obtain ⟨c8, c9, c12, c13, c14, c15, c19, b8, b9, b12, b13, b14, b15, b19⟩ := HC.out w hSw; go_simp; try with_reducible rfl)
  try simp only [Act.put, sA9, sB9, sC9]
  refine' za7 26 (i := 21) (v := _) rfl rfl (by kernel_rfl) (by kernel_rfl) (by kernel_rfl) (fun _ _ _ h => h) (Or.inl ⟨by rfl, ?hy21e⟩) (by assumption) ?re21e
  case hy21e => (intro w hSw; obtain ⟨c8, c9, c12, c13, c14, c15, c19, b8, b9, b12, b13, b14, b15, b19⟩ := HC.out w hSw; go_simp; try with_reducible rfl)
  try simp only [Act.put, sA9, sB9, sC9]
  refine' za7 27 (i := 22) (v := _) rfl rfl (by kernel_rfl) (by kernel_rfl) (by kernel_rfl) (fun _ _ _ h => h) (Or.inl ⟨by rfl, ?hy22e⟩) (by assumption) ?re22e
  case hy22e => (intro w hSw; obtain ⟨c8, c9, c12, c13, c14, c15, c19, b8, b9, b12, b13, b14, b15, b19⟩ := HC.out w hSw; go_simp; try with_reducible rfl)
  try simp only [Act.put, sA9, sB9, sC9]
  refine' za7 28 (i := 23) (v := _) rfl rfl (by kernel_rfl) (by kernel_rfl) (by kernel_rfl) (fun _ _ _ h => h) (Or.inl ⟨by rfl, ?hy23e⟩) (by assumption) ?re23e
  case hy23e => (intro w hSw; obtain ⟨c8, c9, c12, c13, c14, c15, c19, b8, b9, b12, b13, b14, b15, b19⟩ := HC.out w hSw; go_simp; try with_reducible rfl)
  try simp only [Act.put, sA9, sB9, sC9]
  refine' za7 29 (i := 24) (v := _) rfl rfl (by kernel_rfl) (by kernel_rfl) (by kernel_rfl) (fun _ _ _ h => h) (Or.inl ⟨by rfl, ?hy24e⟩) (by assumption) ?re24e
  case hy24e => (intro w hSw; obtain ⟨c8, c9, c12, c13, c14, c15, c19, b8, b9, b12, b13, b14, b15, b19⟩ := HC.out w hSw; go_simp; try with_reducible rfl)
  try simp only [Act.put, sA9, sB9, sC9]
  refine' za7 30 (i := 25) (v := _) rfl rfl (by kernel_rfl) (by kernel_rfl) (by kernel_rfl) (fun _ _ _ h => h) (Or.inl ⟨by rfl, ?hy25e⟩) (by assumption) ?re25e
  case hy25e => (intro w hSw; obtain ⟨c8, c9, c12, c13, c14, c15, c19, b8, b9, b12, b13, b14, b15, b19⟩ := HC.out w hSw; go_simp; try with_reducible rfl)
  try simp only [Act.put, sA9, sB9, sC9]
  refine zbr 31 86 #[.agg (cfgA x.base.cfg), .agg (cfgA y.base.cfg)] (i := 26) rfl rfl (by kernel_rfl) (by rfl) ?he26e ?hc26e
  case he26e => (intro w; go_simp; try with_reducible rfl)
  refine (Z4.out w4 R4).mono ?_
  rintro e w5 ⟨rfl, q5⟩
  have R5 := R4.tr q5
  refine ⟨_, rfl, R5, ?_⟩
  try simp only [Act.put, sA9, sB9, sC9]
  refine' za7 32 (i := 27) (v := _) rfl rfl (by kernel_rfl) (by kernel_rfl) (by kernel_rfl) (fun _ _ _ h => h) (Or.inl ⟨by rfl, ?hy27e⟩) (by assumption) ?re27e
  case hy27e => (intro w hSw; obtain ⟨c8, c9, c12, c13, c14, c15, c19, b8, b9, b12, b13, b14, b15, b19⟩ := HC.out w hSw; go_simp; try with_reducible rfl)
  try simp only [Act.put, sA9, sB9, sC9]
  refine' za7 33 (i := 28) (v := _) rfl rfl (by kernel_rfl) (by kernel_rfl) (by kernel_rfl) (fun _ _ _ h => h) (Or.inl ⟨by rfl, ?hy28e⟩) (by assumption) ?re28e
  case hy28e => (intro w hSw; obtain ⟨c8, c9, c12, c13, c14, c15, c19, b8, b9, b12, b13, b14, b15, b19⟩ := HC.out w hSw; go_simp; try with_reducible rfl)
  try simp only [Act.put, sA9, sB9, sC9]
  refine' zax 34 (i := 29) rfl rfl (by kernel_rfl) (by kernel_rfl) (by kernel_rfl) (fun _ _ _ h => h) (by rfl) (by assumption) ?re29e
  try simp only [Act.put, sA9, sB9, sC9]
  refine' zax 35 (i := 30) rfl rfl (by kernel_rfl) (by kernel_rfl) (by kernel_rfl) (fun _ _ _ h => h) (by rfl) (by assumption) ?re30e
  try simp only [Act.put, sA9, sB9, sC9]
  refine' zax 36 (i := 31) rfl rfl (by kernel_rfl) (by kernel_rfl) (by kernel_rfl) (fun _ _ _ h => h) (by rfl) (by assumption) ?re31e
  try simp only [Act.put, sA9, sB9, sC9]
  refine' zax 37 (i := 32) rfl rfl (by kernel_rfl) (by kernel_rfl) (by kernel_rfl) (fun _ _ _ h => h) (by rfl) (by assumption) ?re32e
  try simp only [Act.put, sA9, sB9, sC9]
  refine' zax 38 (i := 33) rfl rfl (by kernel_rfl) (by kernel_rfl) (by kernel_rfl) (fun _ _ _ h => h) (by rfl) (by assumption) ?re33e
  try simp only [Act.put, sA9, sB9, sC9]
  refine' za7 39 (i := 34) (v := _) rfl rfl (by kernel_rfl) (by kernel_rfl) (by kernel_rfl) (fun _ _ _ h => h) (Or.inl ⟨by rfl, ?hy34e⟩) (by assumption) ?re34e
  case hy34e => (intro w hSw; obtain ⟨c8, c9, c12, c13, c14, c15, c19, b8, b9, b12, b13, b14, b15, b19⟩ := HC.out w hSw; go_simp; try with_reducible rfl)
  try simp only [Act.put, sA9, sB9, sC9]
  refine' za7 4 (i := 35) (v := _) rfl rfl (by kernel_rfl) (by kernel_rfl) (by kernel_rfl) (fun _ _ _ h => h) (Or.inl ⟨by rfl, ?hy35e⟩) (by assumption) ?re35e
  case hy35e => (intro w hSw; obtain ⟨c8, c9, c12, c13, c14, c15, c19, b8, b9, b12, b13, b14, b15, b19⟩ := HC.out w hSw; go_simp; try with_reducible rfl)
  try simp only [Act.put, sA9, sB9, sC9]
  refine wpAnyH_done (by kernel_rfl) ?_ _
  go_wp2_with fail
  go_ret
  exact ⟨rfl, pw.tr R5⟩
 | true =>
 cases d5 with
 | false =>
  go_enter Tryz.func37, Tryz.ntmps37
  go_upto_region 1 with (fail)
  rw [← HY.out, ← HX.out, ← HW0.out, ← HW1.out]
  refine wp_region_held_drew (S := fun w' => Nw W1 w') (by kernel_rfl) QQ (fun hHeld => ?_)
  refine' za7 5 (i := 0) (v := _) rfl rfl (by kernel_rfl) (by kernel_rfl) (by kernel_rfl) (fun _ _ _ h => h) (yieldsIf_load_mid (by rfl) _ _ rfl _ _ rfl _ _ (fun w q => HRX.out w q) Tryz.underlying50 rfl (by kernel_rfl)) (by assumption) ?re0f
  try simp only [Act.put, sA9, sB9, sC9]
  refine' za7 7 (i := 2) (v := _) rfl rfl (by kernel_rfl) (by kernel_rfl) (by kernel_rfl) (fun _ _ _ h => h) (yieldsIf_load_mid (by rfl) _ _ rfl _ _ rfl _ _ (fun w q => HRY.out w q) Tryz.underlying50 rfl (by kernel_rfl)) (by assumption) ?re2f
  try simp only [Act.put, sA9, sB9, sC9]
  refine zbr 6 83 #[.agg (letA x)] (i := 1) rfl rfl (by kernel_rfl) (by rfl) ?he1f ?hc1f
  case he1f => (intro w; go_simp; try with_reducible rfl)
  refine (ZX.out _ QQ).mono ?_
  rintro e w1 ⟨g1, rfl, _, _, l1, q1⟩
  have R1 := QQ.tr q1
  refine ⟨_, rfl, R1, ?_⟩
  try simp only [Act.put, sA9, sB9, sC9]
  refine zbr 8 83 #[.agg (letA y)] (i := 3) rfl rfl (by kernel_rfl) (by rfl) ?he3f ?hc3f
  case he3f => (intro w; go_simp; try with_reducible rfl)
  refine (ZY.out w1 R1).mono ?_
  rintro e w2 ⟨g2, rfl, _, _, l2, q2⟩
  have R2 := R1.tr q2
  refine ⟨_, rfl, R2, ?_⟩
  try simp only [Act.put, sA9, sB9, sC9]
  refine zbr 9 82 #[.slice (some ⟨g1, 0, none⟩) 13 13, .slice (some ⟨g2, 0, none⟩) 13 13] (i := 4) rfl rfl (by kernel_rfl) (by rfl) ?he4f ?hc4f
  case he4f => (intro w; go_simp; try with_reducible rfl)
  refine (Z1.out w2 _ _ g1 g2 (l1.fr q2 (fun _ _ h => h)) l2).mono ?_
  rintro e w3 ⟨rfl, q3⟩
  have R3 := R2.tr q3
  refine ⟨_, rfl, R3, ?_⟩
  try simp only [Act.put, sA9, sB9, sC9]
  refine' za7 10 (i := 5) (v := _) rfl rfl (by kernel_rfl) (by kernel_rfl) (by kernel_rfl) (fun _ _ _ h => h) (Or.inl ⟨by rfl, ?hy5f⟩) (by assumption) ?re5f
  case hy5f => (intro w hSw; obtain ⟨c8, c9, c12, c13, c14, c15, c19, b8, b9, b12, b13, b14, b15, b19⟩ := HC.out w hSw; go_simp; try with_reducible rfl)
  try simp only [Act.put, sA9, sB9, sC9]
  refine' za7 11 (i := 6) (v := _) rfl rfl (by kernel_rfl) (by kernel_rfl) (by kernel_rfl) (fun _ _ _ h => h) (Or.inl ⟨by rfl, ?hy6f⟩) (by assumption) ?re6f
  case hy6f => (intro w hSw; obtain ⟨c8, c9, c12, c13, c14, c15, c19, b8, b9, b12, b13, b14, b15, b19⟩ := HC.out w hSw; go_simp; try with_reducible rfl)
  try simp only [Act.put, sA9, sB9, sC9]
  refine' za7 12 (i := 7) (v := _) rfl rfl (by kernel_rfl) (by kernel_rfl) (by kernel_rfl) (fun _ _ _ h => h) (Or.inl ⟨by rfl, ?hy7f⟩) (by assumption) ?re7f
  case hy7f => (intro w hSw; obtain ⟨c8, c9, c12, c13, c14, c15, c19, b8, b9, b12, b13, b14, b15, b19⟩ := HC.out w hSw; go_simp; try with_reducible rfl)
  try simp only [Act.put, sA9, sB9, sC9]
  refine' za7 13 (i := 8) (v := _) rfl rfl (by kernel_rfl) (by kernel_rfl) (by kernel_rfl) (fun _ _ _ h => h) (Or.inl ⟨by rfl, ?hy8f⟩) (by assumption) ?re8f
  case hy8f => (intro w hSw; obtain ⟨c8, c9, c12, c13, c14, c15, c19, b8, b9, b12, b13, b14, b15, b19⟩ := HC.out w hSw; go_simp; try with_reducible rfl)
  try simp only [Act.put, sA9, sB9, sC9]
  refine' za7 14 (i := 9) (v := _) rfl rfl (by kernel_rfl) (by kernel_rfl) (by kernel_rfl) (fun _ _ _ h => h) (Or.inl ⟨by rfl, ?hy9f⟩) (by assumption) ?re9f
  case hy9f => (intro w hSw; obtain ⟨c8, c9, c12, c13, c14, c15, c19, b8, b9, b12, b13, b14, b15, b19⟩ := HC.out w hSw; go_simp; try with_reducible rfl)
  try simp only [Act.put, sA9, sB9, sC9]
  refine' za7 15 (i := 10) (v := _) rfl rfl (by kernel_rfl) (by kernel_rfl) (by kernel_rfl) (fun _ _ _ h => h) (Or.inl ⟨by rfl, ?hy10f⟩) (by assumption) ?re10f
  case hy10f => (intro w hSw; obtain ⟨c8, c9, c12, c13, c14, c15, c19, b8, b9, b12, b13, b14, b15, b19⟩ := HC.out w hSw; go_simp; try with_reducible rfl)
  try simp only [Act.put, sA9, sB9, sC9]
  refine' za7 16 (i := 11) (v := _) rfl rfl (by kernel_rfl) (by kernel_rfl) (by kernel_rfl) (fun _ _ _ h => h) (Or.inl ⟨by rfl, ?hy11f⟩) (by assumption) ?re11f
  case hy11f => (intro w hSw; obtain ⟨c8, c9, c12, c13, c14, c15, c19, b8, b9, b12, b13, b14, b15, b19⟩ := HC.out w hSw; go_simp; try with_reducible rfl)
  try simp only [Act.put, sA9, sB9, sC9]
  refine' za7 17 (i := 12) (v := _) rfl rfl (by kernel_rfl) (by kernel_rfl) (by kernel_rfl) (fun _ _ _ h => h) (Or.inl ⟨by rfl, ?hy12f⟩) (by assumption) ?re12f
  case hy12f => (intro w hSw; obtain ⟨c8, c9, c12, c13, c14, c15, c19, b8, b9, b12, b13, b14, b15, b19⟩ := HC.out w hSw; go_simp; try with_reducible rfl)
  try simp only [Act.put, sA9, sB9, sC9]
  refine' za7 18 (i := 13) (v := _) rfl rfl (by kernel_rfl) (by kernel_rfl) (by kernel_rfl) (fun _ _ _ h => h) (Or.inl ⟨by rfl, ?hy13f⟩) (by assumption) ?re13f
  case hy13f => (intro w hSw; obtain ⟨c8, c9, c12, c13, c14, c15, c19, b8, b9, b12, b13, b14, b15, b19⟩ := HC.out w hSw; go_simp; try with_reducible rfl)
  try simp only [Act.put, sA9, sB9, sC9]
  refine' za7 19 (i := 14) (v := _) rfl rfl (by kernel_rfl) (by kernel_rfl) (by kernel_rfl) (fun _ _ _ h => h) (Or.inl ⟨by rfl, ?hy14f⟩) (by assumption) ?re14f
  case hy14f => (intro w hSw; obtain ⟨c8, c9, c12, c13, c14, c15, c19, b8, b9, b12, b13, b14, b15, b19⟩ := HC.out w hSw; go_simp; try with_reducible rfl)
  try simp only [Act.put, sA9, sB9, sC9]
  refine' za7 20 (i := 15) (v := _) rfl rfl (by kernel_rfl) (by kernel_rfl) (by kernel_rfl) (fun _ _ _ h => h) (Or.inl ⟨by rfl, ?hy15f⟩) (by assumption) ?re15f
  case hy15f => (intro w hSw; obtain ⟨c8, c9, c12, c13, c14, c15, c19, b8, b9, b12, b13, b14, b15, b19⟩ := HC.out w hSw; go_simp; try with_reducible rfl)
  try simp only [Act.put, sA9, sB9, sC9]
  refine' za7 21 (i := 16) (v := _) rfl rfl (by kernel_rfl) (by kernel_rfl) (by kernel_rfl) (fun _ _ _ h => h) (Or.inl ⟨by rfl, ?hy16f⟩) (by assumption) ?re16f
  case hy16f => (intro w hSw; obtain ⟨c8, c9, c12, c13, c14, c15, c19, b8, b9, b12, b13, b14, b15, b19⟩ := HC.out w hSw; go_simp; try with_reducible rfl)
  try simp only [Act.put, sA9, sB9, sC9]
  refine zbr 22 84 #[.slice x.ents.a x.ents.l.length x.ents.c, .slice y.ents.a y.ents.l.length y.ents.c, .func (.func 85) #[] #[]] (i := 17) rfl rfl (by kernel_rfl) (by rfl) ?he17f ?hc17f
  case he17f => (intro w; go_simp; try with_reducible rfl)
  refine (Z3.out w3 R3).mono ?_
  rintro e w4 ⟨rfl, q4⟩
  have R4 := R3.tr q4
  refine ⟨_, rfl, R4, ?_⟩
  try simp only [Act.put, sA9, sB9, sC9]
  refine' za7 23 (i := 18) (v := _) rfl rfl (by kernel_rfl) (by kernel_rfl) (by kernel_rfl) (fun _ _ _ h => h) (Or.inl ⟨by rfl, ?hy18f⟩) (by assumption) ?re18f
  case hy18f => (intro w hSw; obtain ⟨c8, c9, c12, c13, c14, c15, c19, b8, b9, b12, b13, b14, b15, b19⟩ := HC.out w hSw; go_simp; try with_reducible rfl)
  try simp only [Act.put, sA9, sB9, sC9]
  refine' za7 24 (i := 19) (v := _) rfl rfl (by kernel_rfl) (by kernel_rfl) (by kernel_rfl) (fun _ _ _ h => h) (Or.inl ⟨by rfl, ?hy19f⟩) (by assumption) ?re19f
  case hy19f => (intro w hSw; obtain ⟨c8, c9, c12, c13, c14, c15, c19, b8, b9, b12, b13, b14, b15, b19⟩ := HC.out w hSw; go_simp; try with_reducible rfl)
  try simp only [Act.put, sA9, sB9, sC9]
  refine' za7 25 (i := 20) (v := _) rfl rfl (by kernel_rfl) (by kernel_rfl) (by kernel_rfl) (fun _ _ _ h => h) (Or.inl ⟨by rfl, ?hy20f⟩) (by assumption) ?re20f
  case hy20f => (intro w hSw; obtain ⟨c8, c9, c12, c13, c14, c15, c19, b8, b9, b12, b13, b14, b15, b19⟩ := HC.out w hSw; go_simp; try with_reducible rfl)
  try simp only [Act.put, sA9, sB9, sC9]
  refine' za7 26 (i := 21) (v := _) rfl rfl (by kernel_rfl) (by kernel_rfl) (by kernel_rfl) (fun _ _ _ h => h) (Or.inl ⟨by rfl, ?hy21f⟩) (by assumption) ?re21f
  case hy21f => (intro w hSw; obtain ⟨c8, c9, c12, c13, c14, c15, c19, b8, b9, b12, b13, b14, b15, b19⟩ := HC.out w hSw; go_simp; try with_reducible rfl)
  try simp only [Act.put, sA9, sB9, sC9]
  refine' za7 27 (i := 22) (v := _) rfl rfl (by kernel_rfl) (by kernel_rfl) (by kernel_rfl) (fun _ _ _ h => h) (Or.inl ⟨by rfl, ?hy22f⟩) (by assumption) ?re22f
  case hy22f => (intro w hSw; obtain ⟨c8, c9, c12, c13, c14, c15, c19, b8, b9, b12, b13, b14, b15, b19⟩ := HC.out w hSw; go_simp; try with_reducible rfl)
  try simp only [Act.put, sA9, sB9, sC9]
  refine' za7 28 (i := 23) (v := _) rfl rfl (by kernel_rfl) (by kernel_rfl) (by kernel_rfl) (fun _ _ _ h => h) (Or.inl ⟨by rfl, ?hy23f⟩) (by assumption) ?re23f
  case hy23f => (intro w hSw; obtain ⟨c8, c9, c12, c13, c14, c15, c19, b8, b9, b12, b13, b14, b15, b19⟩ := HC.out w hSw; go_simp; try with_reducible rfl)
  try simp only [Act.put, sA9, sB9, sC9]
  refine' za7 29 (i := 24) (v := _) rfl rfl (by kernel_rfl) (by kernel_rfl) (by kernel_rfl) (fun _ _ _ h => h) (Or.inl ⟨by rfl, ?hy24f⟩) (by assumption) ?re24f
  case hy24f => (intro w hSw; obtain ⟨c8, c9, c12, c13, c14, c15, c19, b8, b9, b12, b13, b14, b15, b19⟩ := HC.out w hSw; go_simp; try with_reducible rfl)
  try simp only [Act.put, sA9, sB9, sC9]
  refine' za7 30 (i := 25) (v := _) rfl rfl (by kernel_rfl) (by kernel_rfl) (by kernel_rfl) (fun _ _ _ h => h) (Or.inl ⟨by rfl, ?hy25f⟩) (by assumption) ?re25f
  case hy25f => (intro w hSw; obtain ⟨c8, c9, c12, c13, c14, c15, c19, b8, b9, b12, b13, b14, b15, b19⟩ := HC.out w hSw; go_simp; try with_reducible rfl)
  try simp only [Act.put, sA9, sB9, sC9]
  refine zbr 31 86 #[.agg (cfgA x.base.cfg), .agg (cfgA y.base.cfg)] (i := 26) rfl rfl (by kernel_rfl) (by rfl) ?he26f ?hc26f
  case he26f => (intro w; go_simp; try with_reducible rfl)
  refine (Z4.out w4 R4).mono ?_
  rintro e w5 ⟨rfl, q5⟩
  have R5 := R4.tr q5
  refine ⟨_, rfl, R5, ?_⟩
  try simp only [Act.put, sA9, sB9, sC9]
  refine' za7 32 (i := 27) (v := _) rfl rfl (by kernel_rfl) (by kernel_rfl) (by kernel_rfl) (fun _ _ _ h => h) (Or.inl ⟨by rfl, ?hy27f⟩) (by assumption) ?re27f
  case hy27f => (intro w hSw; obtain ⟨c8, c9, c12, c13, c14, c15, c19, b8, b9, b12, b13, b14, b15, b19⟩ := HC.out w hSw; go_simp; try with_reducible rfl)
  try simp only [Act.put, sA9, sB9, sC9]
  refine' za7 33 (i := 28) (v := _) rfl rfl (by kernel_rfl) (by kernel_rfl) (by kernel_rfl) (fun _ _ _ h => h) (Or.inl ⟨by rfl, ?hy28f⟩) (by assumption) ?re28f
  case hy28f => (intro w hSw; obtain ⟨c8, c9, c12, c13, c14, c15, c19, b8, b9, b12, b13, b14, b15, b19⟩ := HC.out w hSw; go_simp; try with_reducible rfl)
  try simp only [Act.put, sA9, sB9, sC9]
  refine' za7 34 (i := 29) (v := _) rfl rfl (by kernel_rfl) (by kernel_rfl) (by kernel_rfl) (fun _ _ _ h => h) (Or.inl ⟨by rfl, ?hy29f⟩) (by assumption) ?re29f
  case hy29f => (intro w hSw; obtain ⟨c8, c9, c12, c13, c14, c15, c19, b8, b9, b12, b13, b14, b15, b19⟩ := HC.out w hSw; go_simp; try with_reducible rfl)
  try simp only [Act.put, sA9, sB9, sC9]
  refine' za7 35 (i := 30) (v := _) rfl rfl (by kernel_rfl) (by kernel_rfl) (by kernel_rfl) (fun _ _ _ h => h) (Or.inl ⟨by rfl, ?hy30f⟩) (by assumption) ?re30f
  case hy30f => (intro w hSw; obtain ⟨c8, c9, c12, c13, c14, c15, c19, b8, b9, b12, b13, b14, b15, b19⟩ := HC.out w hSw; go_simp; try with_reducible rfl)
  try simp only [Act.put, sA9, sB9, sC9]
  refine' za7 36 (i := 31) (v := _) rfl rfl (by kernel_rfl) (by kernel_rfl) (by kernel_rfl) (fun _ _ _ h => h) (Or.inl ⟨by rfl, ?hy31f⟩) (by assumption) ?re31f
  case hy31f => (intro w hSw; obtain ⟨c8, c9, c12, c13, c14, c15, c19, b8, b9, b12, b13, b14, b15, b19⟩ := HC.out w hSw; go_simp; try with_reducible rfl)
  try simp only [Act.put, sA9, sB9, sC9]
  refine' za7 37 (i := 32) (v := _) rfl rfl (by kernel_rfl) (by kernel_rfl) (by kernel_rfl) (fun _ _ _ h => h) (Or.inl ⟨by rfl, ?hy32f⟩) (by assumption) ?re32f
  case hy32f => (intro w hSw; obtain ⟨c8, c9, c12, c13, c14, c15, c19, b8, b9, b12, b13, b14, b15, b19⟩ := HC.out w hSw; go_simp; try with_reducible rfl)
  try simp only [Act.put, sA9, sB9, sC9]
  refine zbr 38 87 #[.slice x.bytes.a x.bytes.l.length x.bytes.c, .slice y.bytes.a y.bytes.l.length y.bytes.c] (i := 33) rfl rfl (by kernel_rfl) (by rfl) ?he33f ?hc33f
  case he33f => (intro w; go_simp; try with_reducible rfl)
  refine (Z5.out w5 R5).mono ?_
  rintro e w6 ⟨rfl, q6⟩
  have R6 := R5.tr q6
  refine ⟨_, rfl, R6, ?_⟩
  try simp only [Act.put, sA9, sB9, sC9]
  refine' za7 39 (i := 34) (v := _) rfl rfl (by kernel_rfl) (by kernel_rfl) (by kernel_rfl) (fun _ _ _ h => h) (Or.inl ⟨by rfl, ?hy34f⟩) (by assumption) ?re34f
  case hy34f => (intro w hSw; obtain ⟨c8, c9, c12, c13, c14, c15, c19, b8, b9, b12, b13, b14, b15, b19⟩ := HC.out w hSw; go_simp; try with_reducible rfl)
  try simp only [Act.put, sA9, sB9, sC9]
  refine' za7 4 (i := 35) (v := _) rfl rfl (by kernel_rfl) (by kernel_rfl) (by kernel_rfl) (fun _ _ _ h => h) (Or.inl ⟨by rfl, ?hy35f⟩) (by assumption) ?re35f
  case hy35f => (intro w hSw; obtain ⟨c8, c9, c12, c13, c14, c15, c19, b8, b9, b12, b13, b14, b15, b19⟩ := HC.out w hSw; go_simp; try with_reducible rfl)
  try simp only [Act.put, sA9, sB9, sC9]
  refine wpAnyH_done (by kernel_rfl) ?_ _
  go_wp2_with fail
  go_ret
  exact ⟨rfl, pw.tr R6⟩
 | true =>
 go_enter Tryz.func37, Tryz.ntmps37
 go_upto_region 1 with (fail)
 rw [← HY.out, ← HX.out, ← HW0.out, ← HW1.out]
 refine wp_region_held_drew (S := fun w' => Nw W1 w') (by kernel_rfl) QQ (fun hHeld => ?_)
 refine' za7 5 (i := 0) (v := _) rfl rfl (by kernel_rfl) (by kernel_rfl) (by kernel_rfl) (fun _ _ _ h => h) (yieldsIf_load_mid (by rfl) _ _ rfl _ _ rfl _ _ (fun w q => HRX.out w q) Tryz.underlying50 rfl (by kernel_rfl)) (by assumption) ?re0g
 try simp only [Act.put, sA9, sB9, sC9]
 refine' za7 7 (i := 2) (v := _) rfl rfl (by kernel_rfl) (by kernel_rfl) (by kernel_rfl) (fun _ _ _ h => h) (yieldsIf_load_mid (by rfl) _ _ rfl _ _ rfl _ _ (fun w q => HRY.out w q) Tryz.underlying50 rfl (by kernel_rfl)) (by assumption) ?re2g
 try simp only [Act.put, sA9, sB9, sC9]
 refine zbr 6 83 #[.agg (letA x)] (i := 1) rfl rfl (by kernel_rfl) (by rfl) ?he1g ?hc1g
 case he1g => (intro w; go_simp; try with_reducible rfl)
 refine (ZX.out _ QQ).mono ?_
 rintro e w1 ⟨g1, rfl, _, _, l1, q1⟩
 have R1 := QQ.tr q1
 refine ⟨_, rfl, R1, ?_⟩
 try simp only [Act.put, sA9, sB9, sC9]
 refine zbr 8 83 #[.agg (letA y)] (i := 3) rfl rfl (by kernel_rfl) (by rfl) ?he3g ?hc3g
 case he3g => (intro w; go_simp; try with_reducible rfl)
 refine (ZY.out w1 R1).mono ?_
 rintro e w2 ⟨g2, rfl, _, _, l2, q2⟩
 have R2 := R1.tr q2
 refine ⟨_, rfl, R2, ?_⟩
 try simp only [Act.put, sA9, sB9, sC9]
 refine zbr 9 82 #[.slice (some ⟨g1, 0, none⟩) 13 13, .slice (some ⟨g2, 0, none⟩) 13 13] (i := 4) rfl rfl (by kernel_rfl) (by rfl) ?he4g ?hc4g
 case he4g => (intro w; go_simp; try with_reducible rfl)
 refine (Z1.out w2 _ _ g1 g2 (l1.fr q2 (fun _ _ h => h)) l2).mono ?_
 rintro e w3 ⟨rfl, q3⟩
 have R3 := R2.tr q3
 refine ⟨_, rfl, R3, ?_⟩
 try simp only [Act.put, sA9, sB9, sC9]
 refine' za7 10 (i := 5) (v := _) rfl rfl (by kernel_rfl) (by kernel_rfl) (by kernel_rfl) (fun _ _ _ h => h) (Or.inl ⟨by rfl, ?hy5g⟩) (by assumption) ?re5g
 case hy5g => (intro w hSw; obtain ⟨c8, c9, c12, c13, c14, c15, c19, b8, b9, b12, b13, b14, b15, b19⟩ := HC.out w hSw; go_simp; try with_reducible rfl)
 try simp only [Act.put, sA9, sB9, sC9]
 refine' za7 11 (i := 6) (v := _) rfl rfl (by kernel_rfl) (by kernel_rfl) (by kernel_rfl) (fun _ _ _ h => h) (Or.inl ⟨by rfl, ?hy6g⟩) (by assumption) ?re6g
 case hy6g => (intro w hSw; obtain ⟨c8, c9, c12, c13, c14, c15, c19, b8, b9, b12, b13, b14, b15, b19⟩ := HC.out w hSw; go_simp; try with_reducible rfl)
 try simp only [Act.put, sA9, sB9, sC9]
 refine' za7 12 (i := 7) (v := _) rfl rfl (by kernel_rfl) (by kernel_rfl) (by kernel_rfl) (fun _ _ _ h => h) (Or.inl ⟨by rfl, ?hy7g⟩) (by assumption) ?re7g
 case hy7g => (intro w hSw; obtain ⟨c8, c9, c12, c13, c14, c15, c19, b8, b9, b12, b13, b14, b15, b19⟩ := HC.out w hSw; go_simp; try with_reducible rfl)
 try simp only [Act.put, sA9, sB9, sC9]
 refine' za7 13 (i := 8) (v := _) rfl rfl (by kernel_rfl) (by kernel_rfl) (by kernel_rfl) (fun _ _ _ h => h) (Or.inl ⟨by rfl, ?hy8g⟩) (by assumption) ?re8g
 case hy8g => (intro w hSw; obtain ⟨c8, c9, c12, c13, c14, c15, c19, b8, b9, b12, b13, b14, b15, b19⟩ := HC.out w hSw; go_simp; try with_reducible rfl)
 try simp only [Act.put, sA9, sB9, sC9]
 refine' za7 14 (i := 9) (v := _) rfl rfl (by kernel_rfl) (by kernel_rfl) (by kernel_rfl) (fun _ _ _ h => h) (Or.inl ⟨by rfl, ?hy9g⟩) (by assumption) ?re9g
 case hy9g => (intro w hSw; obtain ⟨c8, c9, c12, c13, c14, c15, c19, b8, b9, b12, b13, b14, b15, b19⟩ := HC.out w hSw; go_simp; try with_reducible rfl)
 try simp only [Act.put, sA9, sB9, sC9]
 refine' za7 15 (i := 10) (v := _) rfl rfl (by kernel_rfl) (by kernel_rfl) (by kernel_rfl) (fun _ _ _ h => h) (Or.inl ⟨by rfl, ?hy10g⟩) (by assumption) ?re10g
 case hy10g => (intro w hSw; obtain ⟨c8, c9, c12, c13, c14, c15, c19, b8, b9, b12, b13, b14, b15, b19⟩ := HC.out w hSw; go_simp; try with_reducible rfl)
 try simp only [Act.put, sA9, sB9, sC9]
 refine' za7 16 (i := 11) (v := _) rfl rfl (by kernel_rfl) (by kernel_rfl) (by kernel_rfl) (fun _ _ _ h => h) (Or.inl ⟨by rfl, ?hy11g⟩) (by assumption) ?re11g
 case hy11g => (intro w hSw; obtain ⟨c8, c9, c12, c13, c14, c15, c19, b8, b9, b12, b13, b14, b15, b19⟩ := HC.out w hSw; go_simp; try with_reducible rfl)
 try simp only [Act.put, sA9, sB9, sC9]
 refine' za7 17 (i := 12) (v := _) rfl rfl (by kernel_rfl) (by kernel_rfl) (by kernel_rfl) (fun _ _ _ h => h) (Or.inl ⟨by rfl, ?hy12g⟩) (by assumption) ?re12g
 case hy12g => (intro w hSw; obtain ⟨c8, c9, c12, c13, c14, c15, c19, b8, b9, b12, b13, b14, b15, b19⟩ := HC.out w hSw; go_simp; try with_reducible rfl)
 try simp only [Act.put, sA9, sB9, sC9]
 refine' za7 18 (i := 13) (v := _) rfl rfl (by kernel_rfl) (by kernel_rfl) (by kernel_rfl) (fun _ _ _ h => h) (Or.inl ⟨by rfl, ?hy13g⟩) (by assumption) ?re13g
 case hy13g => (intro w hSw; obtain ⟨c8, c9, c12, c13, c14, c15, c19, b8, b9, b12, b13, b14, b15, b19⟩ := HC.out w hSw; go_simp; try with_reducible rfl)
 try simp only [Act.put, sA9, sB9, sC9]
 refine' za7 19 (i := 14) (v := _) rfl rfl (by kernel_rfl) (by kernel_rfl) (by kernel_rfl) (fun _ _ _ h => h) (Or.inl ⟨by rfl, ?hy14g⟩) (by assumption) ?re14g
 case hy14g => (intro w hSw; obtain ⟨c8, c9, c12, c13, c14, c15, c19, b8, b9, b12, b13, b14, b15, b19⟩ := HC.out w hSw; go_simp; try with_reducible rfl)
 try simp only [Act.put, sA9, sB9, sC9]
 refine' za7 20 (i := 15) (v := _) rfl rfl (by kernel_rfl) (by kernel_rfl) (by kernel_rfl) (fun _ _ _ h => h) (Or.inl ⟨by rfl, ?hy15g⟩) (by assumption) ?re15g
 case hy15g => (intro w hSw; obtain ⟨c8, c9, c12, c13, c14, c15, c19, b8, b9, b12, b13, b14, b15, b19⟩ := HC.out w hSw; go_simp; try with_reducible rfl)
 try simp only [Act.put, sA9, sB9, sC9]
 refine' za7 21 (i := 16) (v := _) rfl rfl (by kernel_rfl) (by kernel_rfl) (by kernel_rfl) (fun _ _ _ h => h) (Or.inl ⟨by rfl, ?hy16g⟩) (by assumption) ?re16g
 case hy16g => (intro w hSw; obtain ⟨c8, c9, c12, c13, c14, c15, c19, b8, b9, b12, b13, b14, b15, b19⟩ := HC.out w hSw; go_simp; try with_reducible rfl)
 try simp only [Act.put, sA9, sB9, sC9]
 refine zbr 22 84 #[.slice x.ents.a x.ents.l.length x.ents.c, .slice y.ents.a y.ents.l.length y.ents.c, .func (.func 85) #[] #[]] (i := 17) rfl rfl (by kernel_rfl) (by rfl) ?he17g ?hc17g
 case he17g => (intro w; go_simp; try with_reducible rfl)
 refine (Z3.out w3 R3).mono ?_
 rintro e w4 ⟨rfl, q4⟩
 have R4 := R3.tr q4
 refine ⟨_, rfl, R4, ?_⟩
 try simp only [Act.put, sA9, sB9, sC9]
 refine' za7 23 (i := 18) (v := _) rfl rfl (by kernel_rfl) (by kernel_rfl) (by kernel_rfl) (fun _ _ _ h => h) (Or.inl ⟨by rfl, ?hy18g⟩) (by assumption) ?re18g
 case hy18g => (intro w hSw; obtain ⟨c8, c9, c12, c13, c14, c15, c19, b8, b9, b12, b13, b14, b15, b19⟩ := HC.out w hSw; go_simp; try with_reducible rfl)
 try simp only [Act.put, sA9, sB9, sC9]
 refine' za7 24 (i := 19) (v := _) rfl rfl (by kernel_rfl) (by kernel_rfl) (by kernel_rfl) (fun _ _ _ h => h) (Or.inl ⟨by rfl, ?hy19g⟩) (by assumption) ?re19g
 case hy19g => (intro w hSw; obtain ⟨c8, c9, c12, c13, c14, c15, c19, b8, b9, b12, b13, b14, b15, b19⟩ := HC.out w hSw; go_simp; try with_reducible rfl)
 try simp only [Act.put, sA9, sB9, sC9]
 refine' za7 25 (i := 20) (v := _) rfl rfl (by kernel_rfl) (by kernel_rfl) (by kernel_rfl) (fun _ _ _ h => h) (Or.inl ⟨by rfl, ?hy20g⟩) (by assumption) ?re20g
 case hy20g => (intro w hSw; obtain ⟨c8, c9, c12, c13, c14, c15, c19, b8, b9, b12, b13, b14, b15, b19⟩ := HC.out w hSw; go_simp; try with_reducible rfl)
 try simp only [Act.put, sA9, sB9, sC9]
 refine' za7 26 (i := 21) (v := _) rfl rfl (by kernel_rfl) (by kernel_rfl) (by kernel_rfl) (fun _ _ _ h => h) (Or.inl ⟨by rfl, ?hy21g⟩) (by assumption) ?re21g
 case hy21g => (intro w hSw; obtain ⟨c8, c9, c12, c13, c14, c15, c19, b8, b9, b12, b13, b14, b15, b19⟩ := HC.out w hSw; go_simp; try with_reducible rfl)
 try simp only [Act.put, sA9, sB9, sC9]
 refine' za7 27 (i := 22) (v := _) rfl rfl (by kernel_rfl) (by kernel_rfl) (by kernel_rfl) (fun _ _ _ h => h) (Or.inl ⟨by rfl, ?hy22g⟩) (by assumption) ?re22g
 case hy22g => (intro w hSw; obtain ⟨c8, c9, c12, c13, c14, c15, c19, b8, b9, b12, b13, b14, b15, b19⟩ := HC.out w hSw; go_simp; try with_reducible rfl)
 try simp only [Act.put, sA9, sB9, sC9]
 refine' za7 28 (i := 23) (v := _) rfl rfl (by kernel_rfl) (by kernel_rfl) (by kernel_rfl) (fun _ _ _ h => h) (Or.inl ⟨by rfl, ?hy23g⟩) (by assumption) ?re23g
 case hy23g => (intro w hSw; obtain ⟨c8, c9, c12, c13, c14, c15, c19, b8, b9, b12, b13, b14, b15, b19⟩ := HC.out w hSw; go_simp; try with_reducible rfl)
 try simp only [Act.put, sA9, sB9, sC9]
 refine' za7 29 (i := 24) (v := _) rfl rfl (by kernel_rfl) (by kernel_rfl) (by kernel_rfl) (fun _ _ _ h => h) (Or.inl ⟨by rfl, ?hy24g⟩) (by assumption) ?re24g
 case hy24g => (intro w hSw; obtain ⟨c8, c9, c12, c13, c14, c15, c19, b8, b9, b12, b13, b14, b15, b19⟩ := HC.out w hSw; go_simp; try with_reducible rfl)
 try simp only [Act.put, sA9, sB9, sC9]
 refine' za7 30 (i := 25) (v := _) rfl rfl (by kernel_rfl) (by kernel_rfl) (by kernel_rfl) (fun _ _ _ h => h) (Or.inl ⟨by rfl, ?hy25g⟩) (by assumption) ?re25g
 case hy25g => (intro w hSw; obtain ⟨c8, c9, c12, c13, c14, c15, c19, b8, b9, b12, b13, b14, b15, b19⟩ := HC.out w hSw; go_simp; try with_reducible rfl)
 try simp only [Act.put, sA9, sB9, sC9]
 refine zbr 31 86 #[.agg (cfgA x.base.cfg), .agg (cfgA y.base.cfg)] (i := 26) rfl rfl (by kernel_rfl) (by rfl) ?he26g ?hc26g
 case he26g => (intro w; go_simp; try with_reducible rfl)
 refine (Z4.out w4 R4).mono ?_
 rintro e w5 ⟨rfl, q5⟩
 have R5 := R4.tr q5
 refine ⟨_, rfl, R5, ?_⟩
 try simp only [Act.put, sA9, sB9, sC9]
 refine' za7 32 (i := 27) (v := _) rfl rfl (by kernel_rfl) (by kernel_rfl) (by kernel_rfl) (fun _ _ _ h => h) (Or.inl ⟨by rfl, ?hy27g⟩) (by assumption) ?re27g
 case hy27g => (intro w hSw; obtain ⟨c8, c9, c12, c13, c14, c15, c19, b8, b9, b12, b13, b14, b15, b19⟩ := HC.out w hSw; go_simp; try with_reducible rfl)
 try simp only [Act.put, sA9, sB9, sC9]
 refine' za7 33 (i := 28) (v := _) rfl rfl (by kernel_rfl) (by kernel_rfl) (by kernel_rfl) (fun _ _ _ h => h) (Or.inl ⟨by rfl, ?hy28g⟩) (by assumption) ?re28g
 case hy28g => (intro w hSw; obtain ⟨c8, c9, c12, c13, c14, c15, c19, b8, b9, b12, b13, b14, b15, b19⟩ := HC.out w hSw; go_simp; try with_reducible rfl)
 try simp only [Act.put, sA9, sB9, sC9]
 refine' za7 34 (i := 29) (v := _) rfl rfl (by kernel_rfl) (by kernel_rfl) (by kernel_rfl) (fun _ _ _ h => h) (Or.inl ⟨by rfl, ?hy29g⟩) (by assumption) ?re29g
 case hy29g => (intro w hSw; obtain ⟨c8, c9, c12, c13, c14, c15, c19, b8, b9, b12, b13, b14, b15, b19⟩ := HC.out w hSw; go_simp; try with_reducible rfl)
 try simp only [Act.put, sA9, sB9, sC9]
 refine' za7 35 (i := 30) (v := _) rfl rfl (by kernel_rfl) (by kernel_rfl) (by kernel_rfl) (fun _ _ _ h => h) (Or.inl ⟨by rfl, ?hy30g⟩) (by assumption) ?re30g
 case hy30g => (intro w hSw; obtain ⟨c8, c9, c12, c13, c14, c15, c19, b8, b9, b12, b13, b14, b15, b19⟩ := HC.out w hSw; go_simp; try with_reducible rfl)
 try simp only [Act.put, sA9, sB9, sC9]
 refine' za7 36 (i := 31) (v := _) rfl rfl (by kernel_rfl) (by kernel_rfl) (by kernel_rfl) (fun _ _ _ h => h) (Or.inl ⟨by rfl, ?hy31g⟩) (by assumption) ?re31g
 case hy31g => (intro w hSw; obtain ⟨c8, c9, c12, c13, c14, c15, c19, b8, b9, b12, b13, b14, b15, b19⟩ := HC.out w hSw; go_simp; try with_reducible rfl)
 try simp only [Act.put, sA9, sB9, sC9]
 refine' za7 37 (i := 32) (v := _) rfl rfl (by kernel_rfl) (by kernel_rfl) (by kernel_rfl) (fun _ _ _ h => h) (Or.inl ⟨by rfl, ?hy32g⟩) (by assumption) ?re32g
 case hy32g => (intro w hSw; obtain ⟨c8, c9, c12, c13, c14, c15, c19, b8, b9, b12, b13, b14, b15, b19⟩ := HC.out w hSw; go_simp; try with_reducible rfl)
 try simp only [Act.put, sA9, sB9, sC9]
 refine zbr 38 87 #[.slice x.bytes.a x.bytes.l.length x.bytes.c, .slice y.bytes.a y.bytes.l.length y.bytes.c] (i := 33) rfl rfl (by kernel_rfl) (by rfl) ?he33g ?hc33g
 case he33g => (intro w; go_simp; try with_reducible rfl)
 refine (Z5.out w5 R5).mono ?_
 rintro e w6 ⟨rfl, q6⟩
 have R6 := R5.tr q6
 refine ⟨_, rfl, R6, ?_⟩
 try simp only [Act.put, sA9, sB9, sC9]
 refine' za7 39 (i := 34) (v := _) rfl rfl (by kernel_rfl) (by kernel_rfl) (by kernel_rfl) (fun _ _ _ h => h) (Or.inl ⟨by rfl, ?hy34g⟩) (by assumption) ?re34g
 case hy34g => (intro w hSw; obtain ⟨c8, c9, c12, c13, c14, c15, c19, b8, b9, b12, b13, b14, b15, b19⟩ := HC.out w hSw; go_simp; try with_reducible rfl)
 try simp only [Act.put, sA9, sB9, sC9]
 refine' za7 4 (i := 35) (v := _) rfl rfl (by kernel_rfl) (by kernel_rfl) (by kernel_rfl) (fun _ _ _ h => h) (Or.inl ⟨by rfl, ?hy35g⟩) (by assumption) ?re35g
 case hy35g => (intro w hSw; obtain ⟨c8, c9, c12, c13, c14, c15, c19, b8, b9, b12, b13, b14, b15, b19⟩ := HC.out w hSw; go_simp; try with_reducible rfl)
 try simp only [Act.put, sA9, sB9, sC9]
 refine wpAnyH_done (by kernel_rfl) ?_ _
 go_wp2_with fail
 go_ret
 exact ⟨rfl, pw.tr R6⟩
end Go.Proofs.YtippdjaakcgeoaaGreat
