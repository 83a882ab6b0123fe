/- Lemmas of the walks: ClA, Qld, ClF, NoC. (Laid together by shake.py.) -/
import Derived.Deep.RegionHeld3
import Derived.Deep.QuietTactic
import Derived.DeepKeys4
import Derived.WideKeyPair
import Derived.Laws.Cover3
import Derived.Test.YtippdjaakcgeoaaGreatNe01
import Derived.Test.YtippdjaakcgeoaaGreatNe02
import Derived.Test.YtippdjaakcgeoaaGreatNe03
set_option linter.unusedVariables false
set_option linter.unusedSimpArgs false
namespace Go.Proofs.YtippdjaakcgeoaaGreat
open Go Go.RowKit
set_option linter.unusedVariables false
set_option linter.unusedSimpArgs false
/-- A list of the call's own, made since w0. -/
structure LsOwn {α : Type} (w0 w : World) (E : TypeId) (z : Nat) (f : List α → List Value) (s : Ls α) : Prop where
  own : Own w E z s.a s.l.length s.c (f s.l)
  base : ∀ k, inA s.a k → w0.heap.size ≤ k
theorem LsOwn.in_ {α : Type} {w0 w : World} {E : TypeId} {z : Nat} {f : List α → List Value} {s : Ls α} (h : LsOwn w0 w E z f s) : LsIn w (Since w0) f s :=
  ⟨h.own.sl.mono fun k hk _ => h.base k hk, h.own.cap_le⟩
theorem LsOwn.fr {α : Type} {w0 w w' : World} {S : Nat → Prop} {E : TypeId} {z : Nat} {f : List α → List Value} {s : Ls α} (h : LsOwn w0 w E z f s) (hf : Fr S w w') (hn : ∀ k, inA s.a k → ¬ S k) : LsOwn w0 w' E z f s := ⟨h.own.fr hf hn, h.base⟩
theorem LsOwn.nw {α : Type} {w0 w w' : World} {E : TypeId} {z : Nat} {f : List α → List Value} {s : Ls α} (h : LsOwn w0 w E z f s) (hf : Nw w w') : LsOwn w0 w' E z f s := h.fr hf (fun _ _ h => h)
theorem LsOwn.from_ {α : Type} {w0 w1 w : World} {E : TypeId} {z : Nat} {f : List α → List Value} {s : Ls α} (h : LsOwn w1 w E z f s) (hb : w0.heap.size ≤ w1.heap.size) : LsOwn w0 w E z f s := ⟨h.own, fun k hk => Nat.le_trans hb (h.base k hk)⟩
theorem LsOwn.lt {α : Type} {w0 w : World} {E : TypeId} {z : Nat} {f : List α → List Value} {s : Ls α} (h : LsOwn w0 w E z f s) : ∀ k, inA s.a k → k < w.heap.size := h.own.lt
theorem clone_int (w : World) (F : Nat → Prop) (A : Option Addr) (c : Nat) (l : List Int) (hs : Sl w F A (intsC l)) (hsz : l.length ≤ 1000000000) :
    Calls Tryz.prog 151 #[.slice A l.length c] w fun e w' => ∃ A' c', e = .returned (.slice A' l.length c') ∧ LsOwn w w' 3 1 intsC ⟨A', c', l⟩ ∧ Nw w w' := by
  have hnil := fun (w : World) (A : Option Addr) (n : Nat) => Lib.run_eql_slice_nil (P := Tryz.prog) w 41 3 A n c 0 0 Tryz.underlying41
  cases A with
  | none =>
    have hb : l = [] := by
      rcases hs with h | ⟨b, o, h, _⟩
      · simpa [intsC] using h
      · cases h
    subst hb
    go_enter Tryz.func151, Tryz.ntmps151
    go_wp2_with fail
    go_ret
    exact ⟨none, 0, rfl, ⟨Own.nil _ _ _, fun k hk => (inA_none k hk).elim⟩, Fr.refl _ _⟩
  | some a =>
    go_enter Tryz.func151, Tryz.ntmps151
    go_wp2_with (at_builtin; refine wl_append rfl _ _ _ rfl 8 (.int .i64 0) Tryz.underlying41 info_int rfl (by decide) rfl (Own.new w 3 1 0 0 #[] (Nat.le_refl _) (by decide) rfl) rfl (hs.alloc _) (by simp [intsC]) (intsC_cell l) (by omega) (by unfold maxLen; omega) ?_; intro A' cap' w1 ho hf hin)
    go_ret
    simp only [Nat.zero_add, Nat.zero_mul, List.take_zero, List.nil_append] at ho
    refine ⟨A', cap', rfl, ⟨ho, fun k hk => ?_⟩, ((Fr.refl _ w).alloc _).trans hf fun k hk => .inr ?_⟩
    · rcases hin k hk with h | h
      · rw [(inA_some _ _).1 h]; exact Nat.le_refl _
      · rw [h]; simp
    · rw [(inA_some _ _).1 hk]; exact Nat.le_refl _
theorem clone_by (w : World) (F : Nat → Prop) (A : Option Addr) (c : Nat) (l : List UInt8) (hs : Sl w F A (bytesC l)) (hsz : l.length ≤ 1000000000) :
    Calls Tryz.prog 74 #[.slice A l.length c] w fun e w' => ∃ A' c', e = .returned (.slice A' l.length c') ∧ LsOwn w w' 5 1 bytesC ⟨A', c', l⟩ ∧ Nw w w' :=
  (clone_u8 w F A c l hs (by omega)).mono fun e w' ⟨A', c', h1, h2, h3, h4⟩ => ⟨A', c', h1, ⟨h2, h4⟩, h3⟩
theorem clone_ent (w : World) (F : Nat → Prop) (A : Option Addr) (c : Nat) (l : List EntM) (hs : Sl w F A (entsC l)) (hsz : l.length ≤ 1000000000) :
    Calls Tryz.prog 75 #[.slice A l.length c] w fun e w' => ∃ A' c', e = .returned (.slice A' l.length c') ∧ LsOwn w w' 87 7 entsC ⟨A', c', l⟩ ∧ Nw w w' := by
  have hnil := fun (w : World) (A : Option Addr) (n : Nat) => Lib.run_eql_slice_nil (P := Tryz.prog) w 43 87 A n c 0 0 Tryz.underlying43
  cases A with
  | none =>
    have hb : l = [] := by
      rcases hs with h | ⟨b, o, h, _⟩
      · have := congrArg List.length h
        rw [entsC_len] at this
        exact List.eq_nil_of_length_eq_zero (by simp at this; omega)
      · cases h
    subst hb
    go_enter Tryz.func75, Tryz.ntmps75
    go_wp2_with fail
    go_ret
    exact ⟨none, 0, rfl, ⟨Own.nil _ _ _, fun k hk => (inA_none k hk).elim⟩, Fr.refl _ _⟩
  | some a =>
    have hl := entsC_len l
    go_enter Tryz.func75, Tryz.ntmps75
    go_wp2_with (at_builtin; refine wl_append (size := 7) rfl _ _ _ rfl 136 (.agg #[I64 0, U8V 0, .slice none 0 0, .slice none 0 0, .slice none 0 0, .slice none 0 0, .slice none 0 0]) Tryz.underlying43 info_ent rfl (by decide) rfl (Own.new w 87 7 0 0 #[] (Nat.le_refl _) (by decide) rfl) rfl (hs.alloc _) hl (entsC_cell l) (by omega) (by unfold maxLen; omega) ?_; intro A' cap' w1 ho hf hin)
    go_ret
    simp only [Nat.zero_add, Nat.zero_mul, List.take_zero, List.nil_append] at ho
    refine ⟨A', cap', rfl, ⟨ho, fun k hk => ?_⟩, ((Fr.refl _ w).alloc _).trans hf fun k hk => .inr ?_⟩
    · rcases hin k hk with h | h
      · rw [(inA_some _ _).1 h]; exact Nat.le_refl _
      · rw [h]; simp
    · rw [(inA_some _ _).1 hk]; exact Nat.le_refl _
/-- A config whose lists are its own: each made behind the one ahead. -/
structure CfgOwn (w0 w : World) (c : CfgM) : Prop where
  v : LsOwn w0 w 3 1 intsC c.v
  o : LsOwn w0 w 3 1 intsC c.o
  l : LsOwn w0 w 3 1 intsC c.l
  w : LsOwn w0 w 3 1 intsC c.w
  vo : ∀ k j, inA c.v.a k → inA c.o.a j → k < j
  ol : ∀ k j, inA c.o.a k → inA c.l.a j → k < j
  lw : ∀ k j, inA c.l.a k → inA c.w.a j → k < j
  vl : ∀ k j, inA c.v.a k → inA c.l.a j → k < j
  vw : ∀ k j, inA c.v.a k → inA c.w.a j → k < j
  ow : ∀ k j, inA c.o.a k → inA c.w.a j → k < j
theorem CfgOwn.nw {w0 w w' : World} {c : CfgM} (h : CfgOwn w0 w c) (f : Nw w w') : CfgOwn w0 w' c := { h with v := h.v.nw f, o := h.o.nw f, l := h.l.nw f, w := h.w.nw f }
theorem CfgOwn.fr {w0 w w' : World} {S : Nat → Prop} {c : CfgM} (h : CfgOwn w0 w c) (f : Fr S w w') (hn : ∀ k, w0.heap.size ≤ k → ¬ S k) : CfgOwn w0 w' c :=
  { h with v := h.v.fr f (fun k hk => hn k (h.v.base k hk)), o := h.o.fr f (fun k hk => hn k (h.o.base k hk)), l := h.l.fr f (fun k hk => hn k (h.l.base k hk)), w := h.w.fr f (fun k hk => hn k (h.w.base k hk)) }
theorem CfgOwn.from_ {w0 w1 w : World} {c : CfgM} (h : CfgOwn w1 w c) (hb : w0.heap.size ≤ w1.heap.size) : CfgOwn w0 w c := { h with v := h.v.from_ hb, o := h.o.from_ hb, l := h.l.from_ hb, w := h.w.from_ hb }
theorem CfgOwn.in_ {w0 w : World} {c : CfgM} (h : CfgOwn w0 w c) : CfgIn w (Since w0) c := ⟨h.v.in_, h.o.in_, h.l.in_, h.w.in_⟩
set_option maxRecDepth 100000 in
set_option maxHeartbeats 8000000 in
theorem lconfig_any (w : World) (F : Nat → Prop) (x : CfgM) (hx : CfgIn w F x) (hz : CfgSz x) :
    Calls Tryz.prog 76 #[.agg (cfgA x)] w fun e w' => ∃ y : CfgM, e = .returned (.agg (cfgA y)) ∧ y.x = x.x ∧ CfgOwn w w' y ∧ Nw w w' := by
  obtain ⟨X, hX⟩ : ∃ X, X = w.heap.size := ⟨_, rfl⟩
  obtain ⟨Y, hY⟩ : ∃ Y, Y = w.heap.size + 1 := ⟨_, rfl⟩
  obtain ⟨W0, hW0⟩ : ∃ W, W = w.alloc (.cells (cfgA x) 45) := ⟨_, rfl⟩
  have p0 : Nw w W0 := by rw [hW0]; exact (Fr.refl (fun _ => False) _).alloc _
  have x0 : Blk W0 X 45 (cfgA x) := by rw [hW0, hX]; exact Blk.new _ _ _
  have hz0 : W0.heap.size = Y := by rw [hW0, hY]; simp
  obtain ⟨W1, hW1⟩ : ∃ W, W = W0.alloc (.cells #[.slice none 0 0, .slice none 0 0, .slice none 0 0, .slice none 0 0] 45) := ⟨_, rfl⟩
  have p1 : Nw W0 W1 := by rw [hW1]; exact (Fr.refl (fun _ => False) _).alloc _
  have y1 : Blk W1 Y 45 #[.slice none 0 0, .slice none 0 0, .slice none 0 0, .slice none 0 0] := by rw [hW1, ← hz0]; exact Blk.new _ _ _
  have x1 := x0.fr p1 (fun h => h)
  have pw := p0.tr p1
  have hS : ∀ w1, Nw W1 w1 → w1.cell? ⟨X, 0, none⟩ = some x.v.v ∧ w1.cell? ⟨X, 1, none⟩ = some x.o.v ∧ w1.cell? ⟨X, 2, none⟩ = some x.l.v ∧ w1.cell? ⟨X, 3, none⟩ = some x.w.v := fun w1 f => by
    have a := x1.fr f (fun h => h)
    exact ⟨by simpa using a.cell 0, by simpa using a.cell 1, by simpa using a.cell 2, by simpa using a.cell 3⟩
  have zv : ∀ w1, Nw W1 w1 → _ := fun w1 f => clone_int w1 F x.v.a x.v.c x.v.l (hx.v.nw (pw.tr f)).sl (by have := hz.v; omega)
  have zo : ∀ w1, Nw W1 w1 → _ := fun w1 f => clone_int w1 F x.o.a x.o.c x.o.l (hx.o.nw (pw.tr f)).sl (by have := hz.o; omega)
  have zl : ∀ w1, Nw W1 w1 → _ := fun w1 f => clone_int w1 F x.l.a x.l.c x.l.l (hx.l.nw (pw.tr f)).sl (by have := hz.l; omega)
  have zw : ∀ w1, Nw W1 w1 → _ := fun w1 f => clone_int w1 F x.w.a x.w.c x.w.l (hx.w.nw (pw.tr f)).sl (by have := hz.w; omega)
  have Q0 : Nw W1 W1.drew := (Fr.refl (fun _ => False) W1).drew
  have HX := Lib.hid hX
  have HY := Lib.hid hY
  have HW0 := Lib.hid hW0
  have HW1 := Lib.hid hW1
  have HS := Lib.hid hS
  have HV := Lib.hid zv
  have HO := Lib.hid zo
  have HL := Lib.hid zl
  have HWW := Lib.hid zw
  have hXY : X ≠ Y := by omega
  have hYw : w.heap.size ≤ Y := by omega
  have holdc : ∀ (w1 w2 w3 w4 : World) (A1 A2 A3 A4 : Option Addr) (c1 c2 c3 c4 : Nat), Nw W1 w4 → (((w4.setCell ⟨Y, 0, none⟩ (.slice A1 x.v.l.length c1))).cell? ⟨X, 0, none⟩ = some x.v.v ∧ ((w4.setCell ⟨Y, 0, none⟩ (.slice A1 x.v.l.length c1))).cell? ⟨X, 1, none⟩ = some x.o.v ∧ ((w4.setCell ⟨Y, 0, none⟩ (.slice A1 x.v.l.length c1))).cell? ⟨X, 2, none⟩ = some x.l.v ∧ ((w4.setCell ⟨Y, 0, none⟩ (.slice A1 x.v.l.length c1))).cell? ⟨X, 3, none⟩ = some x.w.v) ∧ ((((w4.setCell ⟨Y, 0, none⟩ (.slice A1 x.v.l.length c1)).setCell ⟨Y, 1, none⟩ (.slice A2 x.o.l.length c2))).cell? ⟨X, 0, none⟩ = some x.v.v ∧ (((w4.setCell ⟨Y, 0, none⟩ (.slice A1 x.v.l.length c1)).setCell ⟨Y, 1, none⟩ (.slice A2 x.o.l.length c2))).cell? ⟨X, 1, none⟩ = some x.o.v ∧ (((w4.setCell ⟨Y, 0, none⟩ (.slice A1 x.v.l.length c1)).setCell ⟨Y, 1, none⟩ (.slice A2 x.o.l.length c2))).cell? ⟨X, 2, none⟩ = some x.l.v ∧ (((w4.setCell ⟨Y, 0, none⟩ (.slice A1 x.v.l.length c1)).setCell ⟨Y, 1, none⟩ (.slice A2 x.o.l.length c2))).cell? ⟨X, 3, none⟩ = some x.w.v) ∧ (((((w4.setCell ⟨Y, 0, none⟩ (.slice A1 x.v.l.length c1)).setCell ⟨Y, 1, none⟩ (.slice A2 x.o.l.length c2)).setCell ⟨Y, 2, none⟩ (.slice A3 x.l.l.length c3))).cell? ⟨X, 0, none⟩ = some x.v.v ∧ ((((w4.setCell ⟨Y, 0, none⟩ (.slice A1 x.v.l.length c1)).setCell ⟨Y, 1, none⟩ (.slice A2 x.o.l.length c2)).setCell ⟨Y, 2, none⟩ (.slice A3 x.l.l.length c3))).cell? ⟨X, 1, none⟩ = some x.o.v ∧ ((((w4.setCell ⟨Y, 0, none⟩ (.slice A1 x.v.l.length c1)).setCell ⟨Y, 1, none⟩ (.slice A2 x.o.l.length c2)).setCell ⟨Y, 2, none⟩ (.slice A3 x.l.l.length c3))).cell? ⟨X, 2, none⟩ = some x.l.v ∧ ((((w4.setCell ⟨Y, 0, none⟩ (.slice A1 x.v.l.length c1)).setCell ⟨Y, 1, none⟩ (.slice A2 x.o.l.length c2)).setCell ⟨Y, 2, none⟩ (.slice A3 x.l.l.length c3))).cell? ⟨X, 3, none⟩ = some x.w.v) ∧ ((((((w4.setCell ⟨Y, 0, none⟩ (.slice A1 x.v.l.length c1)).setCell ⟨Y, 1, none⟩ (.slice A2 x.o.l.length c2)).setCell ⟨Y, 2, none⟩ (.slice A3 x.l.l.length c3)).setCell ⟨Y, 3, none⟩ (.slice A4 x.w.l.length c4))).cell? ⟨X, 0, none⟩ = some x.v.v ∧ (((((w4.setCell ⟨Y, 0, none⟩ (.slice A1 x.v.l.length c1)).setCell ⟨Y, 1, none⟩ (.slice A2 x.o.l.length c2)).setCell ⟨Y, 2, none⟩ (.slice A3 x.l.l.length c3)).setCell ⟨Y, 3, none⟩ (.slice A4 x.w.l.length c4))).cell? ⟨X, 1, none⟩ = some x.o.v ∧ (((((w4.setCell ⟨Y, 0, none⟩ (.slice A1 x.v.l.length c1)).setCell ⟨Y, 1, none⟩ (.slice A2 x.o.l.length c2)).setCell ⟨Y, 2, none⟩ (.slice A3 x.l.l.length c3)).setCell ⟨Y, 3, none⟩ (.slice A4 x.w.l.length c4))).cell? ⟨X, 2, none⟩ = some x.l.v ∧ (((((w4.setCell ⟨Y, 0, none⟩ (.slice A1 x.v.l.length c1)).setCell ⟨Y, 1, none⟩ (.slice A2 x.o.l.length c2)).setCell ⟨Y, 2, none⟩ (.slice A3 x.l.l.length c3)).setCell ⟨Y, 3, none⟩ (.slice A4 x.w.l.length c4))).cell? ⟨X, 3, none⟩ = some x.w.v) := by
    intro w1 w2 w3 w4 A1 A2 A3 A4 c1 c2 c3 c4 f
    have a := x1.fr f (fun h => h)
    have a1 := a.fr ((Fr.refl (· = Y) w4).set1 0 (.slice A1 x.v.l.length c1)) (fun e => hXY e)
    have a2 := a.fr (((Fr.refl (· = Y) w4).set1 0 (.slice A1 x.v.l.length c1)).set1 1 (.slice A2 x.o.l.length c2)) (fun e => hXY e)
    have a3 := a.fr ((((Fr.refl (· = Y) w4).set1 0 (.slice A1 x.v.l.length c1)).set1 1 (.slice A2 x.o.l.length c2)).set1 2 (.slice A3 x.l.l.length c3)) (fun e => hXY e)
    have a4 := a.fr (((((Fr.refl (· = Y) w4).set1 0 (.slice A1 x.v.l.length c1)).set1 1 (.slice A2 x.o.l.length c2)).set1 2 (.slice A3 x.l.l.length c3)).set1 3 (.slice A4 x.w.l.length c4)) (fun e => hXY e)
    exact ⟨⟨by simpa using a1.cell 0, by simpa using a1.cell 1, by simpa using a1.cell 2, by simpa using a1.cell 3⟩, ⟨by simpa using a2.cell 0, by simpa using a2.cell 1, by simpa using a2.cell 2, by simpa using a2.cell 3⟩, ⟨by simpa using a3.cell 0, by simpa using a3.cell 1, by simpa using a3.cell 2, by simpa using a3.cell 3⟩, ⟨by simpa using a4.cell 0, by simpa using a4.cell 1, by simpa using a4.cell 2, by simpa using a4.cell 3⟩⟩
  clear hX hY hW0 hW1 hz0 x0 hS zv zo zl zw
  go_enter Tryz.func76, Tryz.ntmps76
  go_upto_region 1 with (fail)
  rw [← HY.out, ← HX.out, ← HW0.out, ← HW1.out]
  go_region_held3 (fun w' => w'.cell? ⟨X, 0, none⟩ = some x.v.v ∧ w'.cell? ⟨X, 1, none⟩ = some x.o.v ∧ w'.cell? ⟨X, 2, none⟩ = some x.l.v ∧ w'.cell? ⟨X, 3, none⟩ = some x.w.v) (first | (with_reducible exact HS.out _ Q0) | (with_reducible exact s1) | (with_reducible exact s2) | (with_reducible exact s3) | (with_reducible exact s4) | (with_reducible exact s5.1) | (with_reducible exact s5.2.1) | (with_reducible exact s5.2.2.1) | (with_reducible exact s5.2.2.2) | fail)
    ((first | (go_at_call 151; refine (HWW.out w3 Q3).mono ?_; rintro e w4 ⟨A4, c4, rfl, o4, q4⟩; have Q4 := Q3.tr q4; have s4 := HS.out w4 Q4; have s5 : _ := holdc w1 w2 w3 w4 A1 A2 A3 A4 c1 c2 c3 c4 Q4; have yb := y1.fr Q4 (fun h => h); have yc0 : w4.cell? ⟨Y, 0, none⟩ = some (.slice none 0 0) := (by simpa using yb.cell 0); have yc1 : w4.cell? ⟨Y, 1, none⟩ = some (.slice none 0 0) := (by simpa using yb.cell 1); have yc2 : w4.cell? ⟨Y, 2, none⟩ = some (.slice none 0 0) := (by simpa using yb.cell 2); have yc3 : w4.cell? ⟨Y, 3, none⟩ = some (.slice none 0 0) := (by simpa using yb.cell 3); have yf0 := yb.frozen 0; have yf1 := yb.frozen 1; have yf2 := yb.frozen 2; have yf3 := yb.frozen 3) | (go_at_call 151; refine (HL.out w2 Q2).mono ?_; rintro e w3 ⟨A3, c3, rfl, o3, q3⟩; have Q3 := Q2.tr q3; have s3 := HS.out w3 Q3) | (go_at_call 151; refine (HO.out w1 Qa).mono ?_; rintro e w2 ⟨A2, c2, rfl, o2, q2⟩; have Q2 := Qa.tr q2; have s2 := HS.out w2 Q2) | (go_at_call 151; refine (HV.out _ Q0).mono ?_; rintro e w1 ⟨A1, c1, rfl, o1, q1⟩; have Qa := Q0.tr q1; have s1 := HS.out w1 Qa)))
  have yz := (((yb.set_ 0 (.slice A1 x.v.l.length c1)).set_ 1 (.slice A2 x.o.l.length c2)).set_ 2 (.slice A3 x.l.l.length c3)).set_ 3 (.slice A4 x.w.l.length c4)
  have hYlt := y1.lt
  have f0 : Fr (· = Y) w4 ((((w4.setCell ⟨Y, 0, none⟩ (.slice A1 x.v.l.length c1)).setCell ⟨Y, 1, none⟩ (.slice A2 x.o.l.length c2)).setCell ⟨Y, 2, none⟩ (.slice A3 x.l.l.length c3)).setCell ⟨Y, 3, none⟩ (.slice A4 x.w.l.length c4)) := ((((Fr.refl (· = Y) w4).set1 _ _).set1 _ _).set1 _ _).set1 _ _
  have hb1 : W1.heap.size ≤ w1.heap.size := Qa.size
  have hb2 := Q2.size
  have hb3 := Q3.size
  have hpw := pw.size
  have l1 := o1.lt
  have l2 := o2.lt
  have l3 := o3.lt
  have b2 := o2.base
  have b3 := o3.base
  have b4 := o4.base
  have g1 : LsOwn W1 w4 3 1 intsC ⟨A1, c1, x.v.l⟩ := ((o1.from_ (Q0.size)).nw q2).nw (q3.tr q4)
  have g2 : LsOwn W1 w4 3 1 intsC ⟨A2, c2, x.o.l⟩ := ((o2.from_ hb1).nw q3).nw q4
  have g3 : LsOwn W1 w4 3 1 intsC ⟨A3, c3, x.l.l⟩ := (o3.from_ hb2).nw q4
  have g4 : LsOwn W1 w4 3 1 intsC ⟨A4, c4, x.w.l⟩ := o4.from_ hb3
  have hco : CfgOwn W1 w4 ⟨⟨A1, c1, x.v.l⟩, ⟨A2, c2, x.o.l⟩, ⟨A3, c3, x.l.l⟩, ⟨A4, c4, x.w.l⟩⟩ := ⟨g1, g2, g3, g4,
    fun k j h1 h2 => Nat.lt_of_lt_of_le (l1 k h1) (b2 j h2), fun k j h1 h2 => Nat.lt_of_lt_of_le (l2 k h1) (b3 j h2), fun k j h1 h2 => Nat.lt_of_lt_of_le (l3 k h1) (b4 j h2),
    fun k j h1 h2 => Nat.lt_of_lt_of_le (l1 k h1) (Nat.le_trans q2.size (b3 j h2)), fun k j h1 h2 => Nat.lt_of_lt_of_le (l1 k h1) (Nat.le_trans (q2.tr q3).size (b4 j h2)), fun k j h1 h2 => Nat.lt_of_lt_of_le (l2 k h1) (Nat.le_trans q3.size (b4 j h2))⟩
  go_wp2_with fail
  refine bodyPost_ret (v := .agg #[.slice A1 x.v.l.length c1, .slice A2 x.o.l.length c2, .slice A3 x.l.l.length c3, .slice A4 x.w.l.length c4]) ?_ rfl ?_
  · exact results_cell_row rfl _ _ Y 45 _ (0, 0) _ rfl yz Tryz.underlying45 rfl (by kernel_rfl)
  exact ⟨⟨⟨A1, c1, x.v.l⟩, ⟨A2, c2, x.o.l⟩, ⟨A3, c3, x.l.l⟩, ⟨A4, c4, x.w.l⟩⟩, rfl, ⟨rfl, rfl, rfl, rfl⟩, ((hco.fr f0 (fun k hk e => by omega)).from_ hpw), (pw.tr Q4).new f0 (fun b hb => by omega)⟩
end Go.Proofs.YtippdjaakcgeoaaGreat

namespace Go.Proofs.YtippdjaakcgeoaaGreat
open Go Go.RowKit

theorem quiet_load_cells {P : Program} {ops : Array Oper} {C : World → Prop} {L : Act → Prop} {rest : List Oper} {o : Oper} {a : Act} (hw : Region.wanted o (yielded ops a.tmps) = true) (ty : TypeId) (x : Operand) (ho : o.op = .load ty x)
    (g off : Nat) (hx : a.eval x = .pointer (some ⟨g, off, none⟩)) (cs : List Value) (d : TypeDesc) (hc : ∀ w, C w → ∀ j v, cs[j]? = some v → w.cell? ⟨g, off + j, none⟩ = some v)
    (hu : P.underlying ty = some d) (hd : (match d with | .struct _ | .array _ _ => true | _ => false) = true) (hi : (P.info? ty).map (·.size) = some cs.length)
    (h : wpQuiet P ops C L rest (a.put o.dst (.agg cs.toArray))) : wpQuiet P ops C L (o :: rest) a := by
  unfold wpQuiet
  rw [if_pos hw]
  refine ⟨.agg cs.toArray, fun w hC => ?_, h⟩
  unfold Oper.quietAt execOp
  simp only [ho, hx, Instr.loadAt, Instr.sureAddr, Sem.run_bind, Sem.run_pure, Result.andThen_ok, run_loadVar_cells w g off ty cs d (hc w hC) hu hd hi]
  exact ⟨rfl, rfl⟩
/-- Cells that stand as they stood. -/
theorem Later.cells {w : World} {g off : Nat} {cs : List Value} (h : ∀ j v, cs[j]? = some v → w.cell? ⟨g, off + j, none⟩ = some v) : ∀ w', (∃ n : Later w, w' = n.at_) → ∀ j v, cs[j]? = some v → w'.cell? ⟨g, off + j, none⟩ = some v := by
  rintro w' ⟨n, rfl⟩ j v hv
  exact n.cell (h j v hv)
/-- A struct's cells loaded behind a guard that says yes. -/
theorem wl_cells_want {P : Program} {w : World} {ops : Array Oper} {rest : List Oper} {o : Oper} {a : Act} {Q : Exit → Act → World → Prop} (hw : Region.wanted o (yielded ops a.tmps) = true) (ty : TypeId) (x : Operand) (ho : o.op = .load ty x)
    (g off : Nat) (hx : a.eval x = .pointer (some ⟨g, off, none⟩)) (cs : List Value) (d : TypeDesc) (hc : ∀ j v, cs[j]? = some v → w.cell? ⟨g, off + j, none⟩ = some v) (hu : P.underlying ty = some d) (hd : (match d with | .struct _ | .array _ _ => true | _ => false) = true) (hi : (P.info? ty).map (·.size) = some cs.length)
    (h : wpList P ops Q rest (a.put o.dst (.agg cs.toArray)) w) : wpList P ops Q (o :: rest) a w := by
  refine BigFrame.wpList_want hw fun K hK => ?_
  exact wp_load_cells ty x ho g off hx cs d hc hu hd hi (hK _ _ h)
end Go.Proofs.YtippdjaakcgeoaaGreat

namespace Go.Proofs.YtippdjaakcgeoaaGreat
open Go Go.RowKit
set_option linter.unusedVariables false
set_option linter.unusedSimpArgs false
/-- The blocks of an entry's lists. -/
def CfgHas (c : CfgM) (k : Nat) : Prop := inA c.v.a k ∨ inA c.o.a k ∨ inA c.l.a k ∨ inA c.w.a k
def EntHas (e : EntM) (k : Nat) : Prop := inA e.cmd.a k ∨ CfgHas e.cfg k
/-- An entry whose lists are its own. -/
structure EntOwn (w0 w : World) (e : EntM) : Prop where
  kind : 0 ≤ e.kind ∧ e.kind ≤ 255
  cmd : LsOwn w0 w 5 1 bytesC e.cmd
  cfg : CfgOwn w0 w e.cfg
section
variable {w0 w1 w w' : World} {S : Nat → Prop}
theorem CfgOwn.has {c : CfgM} (h : CfgOwn w0 w c) : ∀ k, CfgHas c k → w0.heap.size ≤ k ∧ k < w.heap.size := by
  rintro k (h1 | h1 | h1 | h1)
  · exact ⟨h.v.base k h1, h.v.lt k h1⟩
  · exact ⟨h.o.base k h1, h.o.lt k h1⟩
  · exact ⟨h.l.base k h1, h.l.lt k h1⟩
  · exact ⟨h.w.base k h1, h.w.lt k h1⟩
theorem EntOwn.has {e : EntM} (h : EntOwn w0 w e) : ∀ k, EntHas e k → w0.heap.size ≤ k ∧ k < w.heap.size := by
  rintro k (h1 | h1)
  · exact ⟨h.cmd.base k h1, h.cmd.lt k h1⟩
  · exact h.cfg.has k h1
theorem EntOwn.fr {e : EntM} (h : EntOwn w0 w e) (f : Fr S w w') (hn : ∀ k, w0.heap.size ≤ k → ¬ S k) : EntOwn w0 w' e := ⟨h.kind, h.cmd.fr f (fun k hk => hn k (h.cmd.base k hk)), h.cfg.fr f hn⟩
theorem EntOwn.nw {e : EntM} (h : EntOwn w0 w e) (f : Nw w w') : EntOwn w0 w' e := ⟨h.kind, h.cmd.nw f, h.cfg.nw f⟩
theorem EntOwn.from_ {e : EntM} (h : EntOwn w1 w e) (hb : w0.heap.size ≤ w1.heap.size) : EntOwn w0 w e := ⟨h.kind, h.cmd.from_ hb, h.cfg.from_ hb⟩
theorem EntOwn.in_ {e : EntM} (h : EntOwn w0 w e) : EntIn w (Since w0) e := ⟨h.kind, h.cmd.in_, h.cfg.in_⟩
end
def EntBefore (e f : EntM) : Prop := ∀ k j, EntHas e k → EntHas f j → k < j
/-- A letter whose lists are its own: its bytes, its entries, their lists one entry behind the other, its base's config. -/
structure LetOwn (w0 w : World) (y : LetM) : Prop where
  kind : 0 ≤ y.kind ∧ y.kind ≤ 255
  bytes : LsOwn w0 w 5 1 bytesC y.bytes
  ents : LsOwn w0 w 87 7 entsC y.ents
  each : ∀ e ∈ y.ents.l, EntOwn w0 w e
  cfg : CfgOwn w0 w y.base.cfg
  sorted : y.ents.l.Pairwise EntBefore
  ahead : ∀ e ∈ y.ents.l, ∀ k j, inA y.bytes.a k → EntHas e j → k < j
  behind : ∀ e ∈ y.ents.l, ∀ k j, EntHas e k → CfgHas y.base.cfg j → k < j
theorem LetOwn.in_ {w0 w : World} {y : LetM} (h : LetOwn w0 w y) : LetIn w (Since w0) y := ⟨h.kind, h.ents.in_, fun e he => (h.each e he).in_, h.cfg.in_, h.bytes.in_⟩
/-- Behind the first line: the bytes and the entries are cloned. -/
def CpMid (w W1 : World) (X Y : Nat) (x : LetM) (wx : World) : Prop := ∃ (A1 : Option Addr) (c1 : Nat) (A2 : Option Addr) (c2 : Nat),
  Blk wx X 50 #[U8V x.kind, I64 x.group, I64 x.src, I64 x.dst, I64 x.term, I64 x.index, I64 x.logt, I64 x.commit, .bool x.ok, .slice A2 x.ents.l.length c2, I64 x.base.index, I64 x.base.term, .slice x.base.cfg.v.a x.base.cfg.v.l.length x.base.cfg.v.c, .slice x.base.cfg.o.a x.base.cfg.o.l.length x.base.cfg.o.c, .slice x.base.cfg.l.a x.base.cfg.l.l.length x.base.cfg.l.c, .slice x.base.cfg.w.a x.base.cfg.w.l.length x.base.cfg.w.c, I64 x.size, I64 x.at_, I64 x.tag, .slice A1 x.bytes.l.length c1] ∧ Blk wx Y 50 #[U8V 0, I64 0, I64 0, I64 0, I64 0, I64 0, I64 0, I64 0, .bool false, .slice none 0 0, I64 0, I64 0, .slice none 0 0, .slice none 0 0, .slice none 0 0, .slice none 0 0, I64 0, I64 0, I64 0, .slice none 0 0] ∧ LsOwn W1 wx 5 1 bytesC ⟨A1, c1, x.bytes.l⟩ ∧ LsOwn W1 wx 87 7 entsC ⟨A2, c2, x.ents.l⟩ ∧ Nw w wx ∧ W1.heap.size ≤ wx.heap.size
def CpRel (W : World) (xs : List EntM) (A : Option Addr) (c : Nat) (i : Value) (wr : World) : Prop := ∃ (k : Nat) (ys : List EntM), k ≤ xs.length ∧ i = .int .i64 k ∧ ys.length = k ∧ ys.map EntM.x = (xs.take k).map EntM.x ∧
  Own wr 87 7 A xs.length c (entsC (ys ++ xs.drop k)) ∧ (∀ y ∈ ys, EntOwn W wr y) ∧ ys.Pairwise EntBefore ∧ Fr (inA A) W wr
theorem entsC_put (ys : List EntM) (e y : EntM) (r : List EntM) (cv : List Value) (hy : y.cfg.v.v :: [y.cfg.o.v, y.cfg.l.v, y.cfg.w.v] = cv) (h1 : y.term = e.term) (h2 : y.kind = e.kind) : putL (putL (entsC (ys ++ e :: r)) (ys.length * 7 + 2) [y.cmd.v]) (ys.length * 7 + 3) cv = entsC ((ys ++ [y]) ++ r) := by
  subst hy
  have e0 : entsC (ys ++ e :: r) = entsC ys ++ (entL e ++ entsC r) := by simp [entsC, entF]
  have e1 : entsC ((ys ++ [y]) ++ r) = entsC ys ++ (entL y ++ entsC r) := by simp [entsC, entF]
  have hl := entsC_len ys
  rw [e0, e1, ← hl]
  generalize entsC ys = p
  induction p with
  | nil =>
    simp only [List.length_nil, List.nil_append, Nat.zero_add]
    show putL (putL (I64 e.term :: U8V e.kind :: e.cmd.v :: e.cfg.v.v :: e.cfg.o.v :: e.cfg.l.v :: e.cfg.w.v :: entsC r) 2 [y.cmd.v]) 3 [y.cfg.v.v, y.cfg.o.v, y.cfg.l.v, y.cfg.w.v] = _
    rw [← h1, ← h2]
    simp only [putL]
    cases entsC r <;> rfl
  | cons v p ih =>
    have e2 : (v :: p).length + 2 = (p.length + 2) + 1 := by have : (v :: p).length = p.length + 1 := rfl; omega
    have e3 : (v :: p).length + 3 = (p.length + 3) + 1 := by have : (v :: p).length = p.length + 1 := rfl; omega
    rw [e2, e3]
    show v :: putL (putL (p ++ (entL e ++ entsC r)) (p.length + 2) [y.cmd.v]) (p.length + 3) _ = v :: (p ++ (entL y ++ entsC r))
    rw [ih]
set_option maxRecDepth 100000 in
set_option maxHeartbeats 8000000 in
theorem lCopy_any (w : World) (F : Nat → Prop) (x : LetM) (hx : LetIn w F x) (hz : LetSz x) :
    Calls Tryz.prog 33 #[.agg (letA x)] w fun e w' => ∃ y : LetM, e = .returned (.agg (letA y)) ∧ y.x = x.x ∧ LetOwn w w' y ∧ Nw w w' := by
  obtain ⟨X, hX⟩ : ∃ X, X = w.heap.size := ⟨_, rfl⟩
  obtain ⟨Y, hY⟩ : ∃ Y, Y = w.heap.size + 1 := ⟨_, rfl⟩
  obtain ⟨W0, hW0⟩ : ∃ W, W = w.alloc (.cells #[U8V x.kind, I64 x.group, I64 x.src, I64 x.dst, I64 x.term, I64 x.index, I64 x.logt, I64 x.commit, .bool x.ok, .slice x.ents.a x.ents.l.length x.ents.c, I64 x.base.index, I64 x.base.term, .slice x.base.cfg.v.a x.base.cfg.v.l.length x.base.cfg.v.c, .slice x.base.cfg.o.a x.base.cfg.o.l.length x.base.cfg.o.c, .slice x.base.cfg.l.a x.base.cfg.l.l.length x.base.cfg.l.c, .slice x.base.cfg.w.a x.base.cfg.w.l.length x.base.cfg.w.c, I64 x.size, I64 x.at_, I64 x.tag, .slice x.bytes.a x.bytes.l.length x.bytes.c] 50) := ⟨_, rfl⟩
  have p0 : Nw w W0 := by rw [hW0]; exact (Fr.refl (fun _ => False) _).alloc _
  have x0 : Blk W0 X 50 #[U8V x.kind, I64 x.group, I64 x.src, I64 x.dst, I64 x.term, I64 x.index, I64 x.logt, I64 x.commit, .bool x.ok, .slice x.ents.a x.ents.l.length x.ents.c, I64 x.base.index, I64 x.base.term, .slice x.base.cfg.v.a x.base.cfg.v.l.length x.base.cfg.v.c, .slice x.base.cfg.o.a x.base.cfg.o.l.length x.base.cfg.o.c, .slice x.base.cfg.l.a x.base.cfg.l.l.length x.base.cfg.l.c, .slice x.base.cfg.w.a x.base.cfg.w.l.length x.base.cfg.w.c, I64 x.size, I64 x.at_, I64 x.tag, .slice x.bytes.a x.bytes.l.length x.bytes.c] := by rw [hW0, hX]; exact Blk.new _ _ _
  have hz0 : W0.heap.size = Y := by rw [hW0, hY]; simp
  obtain ⟨W1, hW1⟩ : ∃ W, W = W0.alloc (.cells #[U8V 0, I64 0, I64 0, I64 0, I64 0, I64 0, I64 0, I64 0, .bool false, .slice none 0 0, I64 0, I64 0, .slice none 0 0, .slice none 0 0, .slice none 0 0, .slice none 0 0, I64 0, I64 0, I64 0, .slice none 0 0] 50) := ⟨_, rfl⟩
  have p1 : Nw W0 W1 := by rw [hW1]; exact (Fr.refl (fun _ => False) _).alloc _
  have y1 : Blk W1 Y 50 #[U8V 0, I64 0, I64 0, I64 0, I64 0, I64 0, I64 0, I64 0, .bool false, .slice none 0 0, I64 0, I64 0, .slice none 0 0, .slice none 0 0, .slice none 0 0, .slice none 0 0, I64 0, I64 0, I64 0, .slice none 0 0] := by rw [hW1, ← hz0]; exact Blk.new _ _ _
  have x1 := x0.fr p1 (fun h => h)
  have Q1 : Nw w W1 := p0.tr p1
  have hXw : w.heap.size ≤ X := by omega
  have hYw : w.heap.size ≤ Y := by omega
  have hXY : X ≠ Y := by omega
  have hXl : X < W1.heap.size := x1.lt
  have hYl : Y < W1.heap.size := y1.lt
  have HX := Lib.hid hX
  have HY := Lib.hid hY
  have HW0 := Lib.hid hW0
  have HW1 := Lib.hid hW1
  clear hX hY hW0 hW1 hz0 x0
  have Q0 : Nw W1 W1.drew := (Fr.refl (fun _ => False) W1).drew
  have l19 : W1.drew.cell? ⟨X, 19, none⟩ = some (.slice x.bytes.a x.bytes.l.length x.bytes.c) := by simpa using (x1.fr Q0 (fun h => h)).cell 19
  have l9 : W1.drew.cell? ⟨X, 9, none⟩ = some (.slice x.ents.a x.ents.l.length x.ents.c) := by simpa using (x1.fr Q0 (fun h => h)).cell 9
  have zb : ∀ w1, Nw W1 w1 → _ := fun w1 f => clone_by w1 F x.bytes.a x.bytes.c x.bytes.l (hx.bytes.nw (Q1.tr f)).sl (by have := hz.bytes; omega)
  have ze : ∀ w1, Nw W1 w1 → _ := fun w1 f => clone_ent w1 F x.ents.a x.ents.c x.ents.l (hx.ents.nw (Q1.tr f)).sl (by have := hz.ents; omega)
  have HB := Lib.hid zb
  have HE := Lib.hid ze
  clear zb ze
  go_enter Tryz.func33, Tryz.ntmps33
  go_upto_region 1 with (fail)
  rw [← HY.out, ← HX.out, ← HW0.out, ← HW1.out]
  go_cut [] (fun wx => CpMid w W1 X Y x wx)
  case first =>
    first | (go_region_with ((first | (go_at_call 75; refine (HE.out v1 Qa).mono ?_; rintro e v2 ⟨A2, c2, rfl, o2, q2⟩; have Qb := Qa.tr q2; have xb := x1.fr Qb (fun h => h); have xf19 := xb.frozen 19; have xf9 := xb.frozen 9; have xc19 : v2.cell? ⟨X, 19, none⟩ = some (.slice x.bytes.a x.bytes.l.length x.bytes.c) := (by simpa using xb.cell 19); have xc9 : v2.cell? ⟨X, 9, none⟩ = some (.slice x.ents.a x.ents.l.length x.ents.c) := (by simpa using xb.cell 9)) | (go_at_call 74; refine (HB.out _ Q0).mono ?_; rintro e v1 ⟨A1, c1, rfl, o1, q1⟩; have Qa := Q0.tr q1; have xa := x1.fr Qa (fun h => h); have xd9 : v1.cell? ⟨X, 9, none⟩ = some (.slice x.ents.a x.ents.l.length x.ents.c) := (by simpa using xa.cell 9))))) | fail
    all_goals
      go_wp2_with fail
      go_meet
      have hm : Fr (· = X) v2 ((v2.setCell ⟨X, 19, none⟩ (.slice A1 x.bytes.l.length c1)).setCell ⟨X, 9, none⟩ (.slice A2 x.ents.l.length c2)) := ((Fr.refl (· = X) v2).set1 19 _).set1 9 _
      refine ⟨A1, c1, A2, c2, (xb.set_ 19 _).set_ 9 _, (y1.fr Qb (fun h => h)).fr hm (fun e => hXY e.symm), ((o1.nw q2).from_ Q0.size).fr hm (fun k hk e => ?_), (o2.from_ Qa.size).fr hm (fun k hk e => ?_), (Q1.tr Qb).new hm (fun b hb => by omega), Nat.le_trans Qb.size hm.size⟩
      · have := o1.base k hk
        have := Q0.size
        omega
      · have := o2.base k hk
        have := Qa.size
        omega
  case rest =>
    obtain ⟨A1, c1, A2, c2, x2, y2, ob, oe, Q2, hsz2⟩ := hcut
    obtain ⟨W3, hW3⟩ : ∃ W, W = wc := ⟨_, rfl⟩
    rw [← hW3] at x2 y2 ob oe Q2 hsz2 ⊢
    clear hW3 l19 l9 Q0
    have c9 : W3.cell? ⟨X, 9, none⟩ = some (.slice A2 x.ents.l.length c2) := by simpa using x2.cell 9
    obtain ⟨xs, hxs⟩ : ∃ xs, x.ents.l = xs := ⟨_, rfl⟩
    have hin := hx.each
    have hzz := hz.each
    have hlen := hz.ents
    simp only [hxs] at x2 oe c9 hin hzz hlen ⊢
    have HXS := Lib.hid hxs
    have HIN := Lib.hid hin
    have HZZ := Lib.hid hzz
    have hbl : ∀ k, inA A2 k → W1.heap.size ≤ k ∧ k < W3.heap.size := fun k hk => ⟨oe.base k hk, oe.own.lt k hk⟩
    have hXA : ¬ inA A2 X := fun h => by have := hbl X h; omega
    have hYA : ¬ inA A2 Y := fun h => by have := hbl Y h; omega
    have hAE : ∀ k, W3.heap.size ≤ k → ¬ inA A2 k := fun k hk h => by have := hbl k h; omega
    clear hxs hin hzz
    go_wp2_with fail
    go_loopw [16] (fun i wr => CpRel W3 xs A2 c2 i wr) (fun i _ => xs.length - (intOf i).toNat)
    case atStart => exact ⟨0, [], Nat.zero_le _, rfl, rfl, rfl, oe.own, (by intro y hy; cases hy), List.Pairwise.nil, Fr.refl _ _⟩
    case round =>
      obtain ⟨k, ys, hk, rfl, hyl, ht, ho, hys, hsr, hq⟩ := hrel
      have HT := Lib.hid ht
      have HYS := Lib.hid hys
      have HSR := Lib.hid hsr
      clear ht hys hsr
      have xr := x2.fr hq hXA
      have yr := y2.fr hq hYA
      by_cases hlt : k < xs.length
      · have hi0 : (k : Int) < (xs.length : Int) := by omega
        obtain ⟨G, hG⟩ : ∃ G, A2 = some ⟨G, 0, none⟩ := by
          rcases ho.2 with ⟨_, h, _⟩ | ⟨g, cur, h, _⟩
          · omega
          · exact ⟨g, h⟩
        subst hG
        obtain ⟨e, he⟩ : ∃ e, xs[k] = e := ⟨_, rfl⟩
        have hdr : xs.drop k = e :: xs.drop (k + 1) := by rw [← he]; exact List.drop_eq_getElem_cons hlt
        rw [hdr] at ho
        have hek : e ∈ xs := by rw [← he]; exact List.getElem_mem hlt
        have ie : EntIn wr (fun b => b < w.heap.size ∧ F b) e := ((HIN.out e hek).mono fun j h1 h2 => ⟨h2, h1⟩).fr (Q2.on.trans hq (fun b hb => .inr (by have := hbl b hb; omega))) (fun j hj h => h)
        have ze := HZZ.out e hek
        have hyk : (ys ++ e :: xs.drop (k + 1))[k]'(by simp; omega) = e := by
          rw [List.getElem_append_right (by omega)]
          simp [hyl]
        have hlt2 : k < (ys ++ e :: xs.drop (k + 1)).length := by simp; omega
        obtain ⟨b, o, hbo, hb, hbl2, hc⟩ := Sl.ent ho.sl hlt2
        obtain ⟨rfl, rfl⟩ : G = b ∧ o = 0 := by
          injection hbo with hbo
          injection hbo with h1 h2
          exact ⟨h1, h2.symm⟩
        rw [hyk] at hc
        simp only [Nat.zero_add] at hc
        clear hyk hlt2 hbo hb hbl2
        obtain ⟨E, hE⟩ : ∃ E, E = wr.heap.size := ⟨_, rfl⟩
        obtain ⟨V0, hV0⟩ : ∃ V, V = wr.alloc (.cells #[I64 0, U8V 0, .slice none 0 0, .slice none 0 0, .slice none 0 0, .slice none 0 0, .slice none 0 0] 87) := ⟨_, rfl⟩
        have qv0 : Nw wr V0 := by rw [hV0]; exact (Fr.refl (fun _ => False) wr).alloc _
        have g0 : Blk V0 E 87 #[I64 0, U8V 0, .slice none 0 0, .slice none 0 0, .slice none 0 0, .slice none 0 0, .slice none 0 0] := by rw [hV0, hE]; exact Blk.new _ _ _
        obtain ⟨V1, hV1⟩ : ∃ V, V = V0.setCells E 0 [I64 e.term, U8V e.kind, .slice e.cmd.a e.cmd.l.length e.cmd.c, .slice e.cfg.v.a e.cfg.v.l.length e.cfg.v.c, .slice e.cfg.o.a e.cfg.o.l.length e.cfg.o.c, .slice e.cfg.l.a e.cfg.l.l.length e.cfg.l.c, .slice e.cfg.w.a e.cfg.w.l.length e.cfg.w.c] := ⟨_, rfl⟩
        have g1 : Blk V1 E 87 #[I64 e.term, U8V e.kind, .slice e.cmd.a e.cmd.l.length e.cmd.c, .slice e.cfg.v.a e.cfg.v.l.length e.cfg.v.c, .slice e.cfg.o.a e.cfg.o.l.length e.cfg.o.c, .slice e.cfg.l.a e.cfg.l.l.length e.cfg.l.c, .slice e.cfg.w.a e.cfg.w.l.length e.cfg.w.c] := by rw [hV1]; exact Blk.setCells (l := [I64 0, U8V 0, .slice none 0 0, .slice none 0 0, .slice none 0 0, .slice none 0 0, .slice none 0 0]) g0 0 [I64 e.term, U8V e.kind, .slice e.cmd.a e.cmd.l.length e.cmd.c, .slice e.cfg.v.a e.cfg.v.l.length e.cfg.v.c, .slice e.cfg.o.a e.cfg.o.l.length e.cfg.o.c, .slice e.cfg.l.a e.cfg.l.l.length e.cfg.l.c, .slice e.cfg.w.a e.cfg.w.l.length e.cfg.w.c]
        have m1 : Fr (· = E) V0 V1 := by rw [hV1]; exact (Fr.refl (· = E) _).setCells _ _
        have qv1 : Nw wr V1 := qv0.new m1 (fun b hb => by omega)
        have th1 := Blk.there (l := [I64 0, U8V 0, .slice none 0 0, .slice none 0 0, .slice none 0 0, .slice none 0 0, .slice none 0 0]) g0 0 7 (by show 0 + 7 ≤ 7; omega)
        have one1 := entA_one e
        have HE0 := Lib.hid hE
        have HV0 := Lib.hid hV0
        have HV1 := Lib.hid hV1
        have HEQ := Lib.hid he
        have HDR := Lib.hid hdr
        have hEG : E ≠ G := by have := hbl G ((inA_some _ _).2 rfl); have := hq.size; omega
        have hEX : X ≠ E := by have := xr.lt; omega
        have hGX : X ≠ G := fun e => hXA ((inA_some _ _).2 e)
        clear hE hV0 hV1 he hdr
        go_upto_region 5 with (first | (refine wl_load_cells rfl 87 _ rfl G (k * 7) rfl [I64 e.term, U8V e.kind, .slice e.cmd.a e.cmd.l.length e.cmd.c, .slice e.cfg.v.a e.cfg.v.l.length e.cfg.v.c, .slice e.cfg.o.a e.cfg.o.l.length e.cfg.o.c, .slice e.cfg.l.a e.cfg.l.l.length e.cfg.l.c, .slice e.cfg.w.a e.cfg.w.l.length e.cfg.w.c] _ hc Tryz.underlying87 rfl (by kernel_rfl) ?_) | (rw [← HE0.out, ← HV0.out]; refine wpList_store_mid rfl 87 _ _ rfl E 0 #[I64 e.term, U8V e.kind, .slice e.cmd.a e.cmd.l.length e.cmd.c, .slice e.cfg.v.a e.cfg.v.l.length e.cfg.v.c, .slice e.cfg.o.a e.cfg.o.l.length e.cfg.o.c, .slice e.cfg.l.a e.cfg.l.l.length e.cfg.l.c, .slice e.cfg.w.a e.cfg.w.l.length e.cfg.w.c] rfl rfl th1 (by kernel_rfl) one1 ?_; rw [← HV1.out]))
        have hS : ∀ w1, Nw V1 w1 → w1.cell? ⟨X, 9, none⟩ = some (.slice (some ⟨G, 0, none⟩) xs.length c2) ∧ w1.cell? ⟨E, 2, none⟩ = some (.slice e.cmd.a e.cmd.l.length e.cmd.c) ∧ w1.cell? ⟨E, 3, none⟩ = some (.slice e.cfg.v.a e.cfg.v.l.length e.cfg.v.c) ∧ w1.cell? ⟨E, 4, none⟩ = some (.slice e.cfg.o.a e.cfg.o.l.length e.cfg.o.c) ∧ w1.cell? ⟨E, 5, none⟩ = some (.slice e.cfg.l.a e.cfg.l.l.length e.cfg.l.c) ∧ w1.cell? ⟨E, 6, none⟩ = some (.slice e.cfg.w.a e.cfg.w.l.length e.cfg.w.c) := fun w1 f => by
          have a := (xr.fr qv1 (fun h => h)).fr f (fun h => h)
          have b := g1.fr f (fun h => h)
          exact ⟨by simpa using a.cell 9, by simpa using b.cell 2, by simpa using b.cell 3, by simpa using b.cell 4, by simpa using b.cell 5, by simpa using b.cell 6⟩
        have hS2 : ∀ w1, (∃ w5, Nw V1 w5 ∧ Fr (· = G) w5 w1) → w1.cell? ⟨X, 9, none⟩ = some (.slice (some ⟨G, 0, none⟩) xs.length c2) ∧ w1.cell? ⟨E, 2, none⟩ = some (.slice e.cmd.a e.cmd.l.length e.cmd.c) ∧ w1.cell? ⟨E, 3, none⟩ = some (.slice e.cfg.v.a e.cfg.v.l.length e.cfg.v.c) ∧ w1.cell? ⟨E, 4, none⟩ = some (.slice e.cfg.o.a e.cfg.o.l.length e.cfg.o.c) ∧ w1.cell? ⟨E, 5, none⟩ = some (.slice e.cfg.l.a e.cfg.l.l.length e.cfg.l.c) ∧ w1.cell? ⟨E, 6, none⟩ = some (.slice e.cfg.w.a e.cfg.w.l.length e.cfg.w.c) := by
          rintro w1 ⟨w5, f, g⟩
          have a := ((xr.fr qv1 (fun h => h)).fr f (fun h => h)).fr g hGX
          have b := (g1.fr f (fun h => h)).fr g hEG
          exact ⟨by simpa using a.cell 9, by simpa using b.cell 2, by simpa using b.cell 3, by simpa using b.cell 4, by simpa using b.cell 5, by simpa using b.cell 6⟩
        have HS2 := Lib.hid hS2
        clear hS2
        have hN : ∀ w1, Nw V1 w1 → (w1.cell? ⟨G, k * 7 + 2, none⟩ = some (.slice e.cmd.a e.cmd.l.length e.cmd.c) ∧ w1.frozen? ⟨G, k * 7 + 2, none⟩ = false) ∧ (w1.cell? ⟨G, k * 7 + 3, none⟩ = some (.slice e.cfg.v.a e.cfg.v.l.length e.cfg.v.c) ∧ w1.frozen? ⟨G, k * 7 + 3, none⟩ = false) ∧ (w1.cell? ⟨G, k * 7 + 4, none⟩ = some (.slice e.cfg.o.a e.cfg.o.l.length e.cfg.o.c) ∧ w1.frozen? ⟨G, k * 7 + 4, none⟩ = false) ∧ (w1.cell? ⟨G, k * 7 + 5, none⟩ = some (.slice e.cfg.l.a e.cfg.l.l.length e.cfg.l.c) ∧ w1.frozen? ⟨G, k * 7 + 5, none⟩ = false) ∧ (w1.cell? ⟨G, k * 7 + 6, none⟩ = some (.slice e.cfg.w.a e.cfg.w.l.length e.cfg.w.c) ∧ w1.frozen? ⟨G, k * 7 + 6, none⟩ = false) := fun w1 f => by
          have b := Later.cells hc w1 ⟨⟨w1, qv1.tr f⟩, rfl⟩
          have o := ho.fr (qv1.tr f) (fun _ _ h => h)
          exact ⟨⟨b 2 _ rfl, o.frozenAt _⟩, ⟨b 3 _ rfl, o.frozenAt _⟩, ⟨b 4 _ rfl, o.frozenAt _⟩, ⟨b 5 _ rfl, o.frozenAt _⟩, ⟨b 6 _ rfl, o.frozenAt _⟩⟩
        have HN := Lib.hid hN
        clear hN
        have zc : ∀ w1, Nw V1 w1 → _ := fun w1 f => clone_by w1 _ e.cmd.a e.cmd.c e.cmd.l (ie.cmd.nw (qv1.tr f)).sl (by have := ze.cmd; omega)
        have zf : ∀ w1, Nw V1 w1 → _ := fun w1 f => lconfig_any w1 _ e.cfg (ie.cfg.nw (qv1.tr f)) ze.cfg
        have HS := Lib.hid hS
        have ZC := Lib.hid zc
        have ZF := Lib.hid zf
        have Qd : Nw V1 V1.drew := (Fr.refl (fun _ => False) V1).drew
        have hki : ((k : Int) < 0) = False := by simp
        clear hS zc zf xr yr g1 ie
        first | (go_region_held3 (fun w' => w'.cell? ⟨X, 9, none⟩ = some (.slice (some ⟨G, 0, none⟩) xs.length c2) ∧ w'.cell? ⟨E, 2, none⟩ = some (.slice e.cmd.a e.cmd.l.length e.cmd.c) ∧ w'.cell? ⟨E, 3, none⟩ = some (.slice e.cfg.v.a e.cfg.v.l.length e.cfg.v.c) ∧ w'.cell? ⟨E, 4, none⟩ = some (.slice e.cfg.o.a e.cfg.o.l.length e.cfg.o.c) ∧ w'.cell? ⟨E, 5, none⟩ = some (.slice e.cfg.l.a e.cfg.l.l.length e.cfg.l.c) ∧ w'.cell? ⟨E, 6, none⟩ = some (.slice e.cfg.w.a e.cfg.w.l.length e.cfg.w.c)) (first | (with_reducible exact HS.out _ Qd) | (with_reducible exact s4) | (with_reducible exact s5) | (refine HS2.out _ ⟨w5, Q5, ?_⟩; (repeat (first | exact Fr.refl _ _ | apply Fr.set1 | apply Fr.setCells)); done) | fail)
          ((first | (go_at_call 76; refine (ZF.out w4 Q4).mono ?_; rintro e w5 ⟨y, rfl, ey, oy, q5⟩; have Q5 := Q4.tr q5; have s5 := HS.out w5 Q5; obtain ⟨⟨nc2, nf2⟩, ⟨nc3, nf3⟩, ⟨nc4, nf4⟩, ⟨nc5, nf5⟩, nc6, nf6⟩ := HN.out w5 Q5) | (go_at_call 74; refine (ZC.out _ Qd).mono ?_; rintro e w4 ⟨A4, c4, rfl, o4, q4⟩; have Q4 := Qd.tr q4; have s4 := HS.out w4 Q4)))) | fail
        go_wp2_with fail
        go_roundw
        case rel =>
          obtain ⟨w6, hw6⟩ : ∃ w6, w6 = (w5.setCells G (k * 7 + 2) [.slice A4 e.cmd.l.length c4]).setCells G (k * 7 + 3) [.slice y.v.a y.v.l.length y.v.c, .slice y.o.a y.o.l.length y.o.c, .slice y.l.a y.l.l.length y.l.c, .slice y.w.a y.w.l.length y.w.c] := ⟨_, rfl⟩
          show CpRel W3 xs (some ⟨G, 0, none⟩) c2 _ ((w5.setCells G (k * 7 + 2) [.slice A4 e.cmd.l.length c4]).setCells G (k * 7 + 3) [.slice y.v.a y.v.l.length y.v.c, .slice y.o.a y.o.l.length y.o.c, .slice y.l.a y.l.l.length y.l.c, .slice y.w.a y.w.l.length y.w.c])
          rw [← hw6]
          have ho5 := ho.fr (qv1.tr Q5) (fun _ _ h => h)
          have ho6 := (ho5.storeL (k * 7 + 2) [.slice A4 e.cmd.l.length c4]).storeL (k * 7 + 3) [.slice y.v.a y.v.l.length y.v.c, .slice y.o.a y.o.l.length y.o.c, .slice y.l.a y.l.l.length y.l.c, .slice y.w.a y.w.l.length y.w.c]
          rw [← hw6] at ho6
          have hfg : Fr (· = G) w5 w6 := by rw [hw6]; exact ((Fr.refl (· = G) w5).setCells _ _).setCells _ _
          have hput := entsC_put ys e ⟨e.term, e.kind, ⟨A4, c4, e.cmd.l⟩, y⟩ (xs.drop (k + 1)) _ rfl rfl rfl
          rw [hyl] at hput
          have hput2 : putL (putL (entsC (ys ++ e :: xs.drop (k + 1))) (k * 7 + 2) [.slice A4 e.cmd.l.length c4]) (k * 7 + 3) [.slice y.v.a y.v.l.length y.v.c, .slice y.o.a y.o.l.length y.o.c, .slice y.l.a y.l.l.length y.l.c, .slice y.w.a y.w.l.length y.w.c] = entsC ((ys ++ [⟨e.term, e.kind, ⟨A4, c4, e.cmd.l⟩, y⟩]) ++ xs.drop (k + 1)) := hput
          rw [hput2] at ho6
          have hGW : ∀ j, W3.heap.size ≤ j → ¬ j = G := fun j hj h => hAE j hj ((inA_some _ _).2 h)
          have hsz := hq.size
          have hszv := qv1.size
          have hszd := Qd.size
          have hszq := q4.size
          have own6 : EntOwn W3 w6 ⟨e.term, e.kind, ⟨A4, c4, e.cmd.l⟩, y⟩ := EntOwn.fr (w := w5) ⟨(HIN.out e hek).kind, (o4.nw q5).from_ (Nat.le_trans hsz (Nat.le_trans hszv hszd)), oy.from_ (Nat.le_trans hsz (Nat.le_trans hszv (Nat.le_trans hszd hszq)))⟩ hfg hGW
          have new6 : EntOwn wr w6 ⟨e.term, e.kind, ⟨A4, c4, e.cmd.l⟩, y⟩ := EntOwn.fr (w := w5) ⟨(HIN.out e hek).kind, (o4.nw q5).from_ (Nat.le_trans hszv hszd), oy.from_ (Nat.le_trans hszv (Nat.le_trans hszd hszq))⟩ hfg (fun j hj => hGW j (Nat.le_trans hsz hj))
          refine ⟨k + 1, ys ++ [⟨e.term, e.kind, ⟨A4, c4, e.cmd.l⟩, y⟩], by omega, by go_num, by simp [hyl], ?_, ho6, fun u hu => ?_, ?_, ?_⟩
          · rw [List.take_succ_eq_append_getElem hlt, List.map_append, List.map_append, HT.out, HEQ.out, List.map_singleton, List.map_singleton]
            show _ ++ [(⟨e.term, e.kind, e.cmd.l, y.x⟩ : Ent)] = _
            rw [ey]
          · rcases List.mem_append.1 hu with hu | hu
            · exact ((HYS.out u hu).nw (qv1.tr Q5)).fr hfg hGW
            · rw [List.mem_singleton.1 hu]; exact own6
          · refine List.pairwise_append.2 ⟨HSR.out, List.pairwise_singleton _ _, fun a ha b hb i j hi hj => ?_⟩
            rw [List.mem_singleton.1 hb] at hj
            have h1 := ((HYS.out a ha).has i hi).2
            have h2 := (new6.has j hj).1
            omega
          · exact (hq.tr (Nw.on (qv1.tr Q5))).trans hfg (fun b hb => .inl ((inA_some _ _).2 hb))
        case measure => simp [intOf]; omega
      · obtain rfl : xs.length = k := by omega
        have cb : ∀ p u, ([.slice x.base.cfg.v.a x.base.cfg.v.l.length x.base.cfg.v.c, .slice x.base.cfg.o.a x.base.cfg.o.l.length x.base.cfg.o.c, .slice x.base.cfg.l.a x.base.cfg.l.l.length x.base.cfg.l.c, .slice x.base.cfg.w.a x.base.cfg.w.l.length x.base.cfg.w.c] : List Value)[p]? = some u → wr.cell? ⟨X, 12 + p, none⟩ = some u := Blk.cells_in xr 12 4
        have ib := (hx.cfg.mono (F' := fun j => j < w.heap.size ∧ F j) fun j h1 h2 => ⟨h2, h1⟩).fr (Q2.on.trans hq (fun b hb => .inr (by have := hbl b hb; omega))) (fun j hj h => h)
        have hcf := lconfig_any wr _ x.base.cfg ib hz.cfg
        go_wp2_with (refine wl_load_cells rfl 45 _ rfl X 12 rfl [.slice x.base.cfg.v.a x.base.cfg.v.l.length x.base.cfg.v.c, .slice x.base.cfg.o.a x.base.cfg.o.l.length x.base.cfg.o.c, .slice x.base.cfg.l.a x.base.cfg.l.l.length x.base.cfg.l.c, .slice x.base.cfg.w.a x.base.cfg.w.l.length x.base.cfg.w.c] _ cb Tryz.underlying45 rfl (by kernel_rfl) ?_)
        refine hcf.mono ?_
        rintro e w4 ⟨y, rfl, ey, oy, q4⟩
        have x4 := xr.fr q4 (fun h => h)
        have y4 := yr.fr q4 (fun h => h)
        have th := Blk.there (l := [U8V x.kind, I64 x.group, I64 x.src, I64 x.dst, I64 x.term, I64 x.index, I64 x.logt, I64 x.commit, .bool x.ok, .slice A2 xs.length c2, I64 x.base.index, I64 x.base.term, .slice x.base.cfg.v.a x.base.cfg.v.l.length x.base.cfg.v.c, .slice x.base.cfg.o.a x.base.cfg.o.l.length x.base.cfg.o.c, .slice x.base.cfg.l.a x.base.cfg.l.l.length x.base.cfg.l.c, .slice x.base.cfg.w.a x.base.cfg.w.l.length x.base.cfg.w.c, I64 x.size, I64 x.at_, I64 x.tag, .slice A1 x.bytes.l.length c1]) x4 12 4 (by show 12 + 4 ≤ 20; omega)
        have one := cfgA_one y
        obtain ⟨w5, hw5⟩ : ∃ W, W = w4.setCells X 12 [.slice y.v.a y.v.l.length y.v.c, .slice y.o.a y.o.l.length y.o.c, .slice y.l.a y.l.l.length y.l.c, .slice y.w.a y.w.l.length y.w.c] := ⟨_, rfl⟩
        have m5 : Fr (· = X) w4 w5 := by rw [hw5]; exact (Fr.refl (· = X) _).setCells _ _
        have x5 : Blk w5 X 50 #[U8V x.kind, I64 x.group, I64 x.src, I64 x.dst, I64 x.term, I64 x.index, I64 x.logt, I64 x.commit, .bool x.ok, .slice A2 xs.length c2, I64 x.base.index, I64 x.base.term, .slice y.v.a y.v.l.length y.v.c, .slice y.o.a y.o.l.length y.o.c, .slice y.l.a y.l.l.length y.l.c, .slice y.w.a y.w.l.length y.w.c, I64 x.size, I64 x.at_, I64 x.tag, .slice A1 x.bytes.l.length c1] := by rw [hw5]; exact Blk.setCells (l := [U8V x.kind, I64 x.group, I64 x.src, I64 x.dst, I64 x.term, I64 x.index, I64 x.logt, I64 x.commit, .bool x.ok, .slice A2 xs.length c2, I64 x.base.index, I64 x.base.term, .slice x.base.cfg.v.a x.base.cfg.v.l.length x.base.cfg.v.c, .slice x.base.cfg.o.a x.base.cfg.o.l.length x.base.cfg.o.c, .slice x.base.cfg.l.a x.base.cfg.l.l.length x.base.cfg.l.c, .slice x.base.cfg.w.a x.base.cfg.w.l.length x.base.cfg.w.c, I64 x.size, I64 x.at_, I64 x.tag, .slice A1 x.bytes.l.length c1]) x4 12 [.slice y.v.a y.v.l.length y.v.c, .slice y.o.a y.o.l.length y.o.c, .slice y.l.a y.l.l.length y.l.c, .slice y.w.a y.w.l.length y.w.c]
        have y5 := y4.fr m5 (fun h => hXY h.symm)
        have lz := Blk.cells_at (l := [U8V x.kind, I64 x.group, I64 x.src, I64 x.dst, I64 x.term, I64 x.index, I64 x.logt, I64 x.commit, .bool x.ok, .slice A2 xs.length c2, I64 x.base.index, I64 x.base.term, .slice y.v.a y.v.l.length y.v.c, .slice y.o.a y.o.l.length y.o.c, .slice y.l.a y.l.l.length y.l.c, .slice y.w.a y.w.l.length y.w.c, I64 x.size, I64 x.at_, I64 x.tag, .slice A1 x.bytes.l.length c1]) x5 0
        have thz := Blk.there (l := [U8V 0, I64 0, I64 0, I64 0, I64 0, I64 0, I64 0, I64 0, .bool false, .slice none 0 0, I64 0, I64 0, .slice none 0 0, .slice none 0 0, .slice none 0 0, .slice none 0 0, I64 0, I64 0, I64 0, .slice none 0 0]) y5 0 20 (by show 0 + 20 ≤ 20; omega)
        obtain ⟨w6, hw6⟩ : ∃ W, W = w5.setCells Y 0 [U8V x.kind, I64 x.group, I64 x.src, I64 x.dst, I64 x.term, I64 x.index, I64 x.logt, I64 x.commit, .bool x.ok, .slice A2 xs.length c2, I64 x.base.index, I64 x.base.term, .slice y.v.a y.v.l.length y.v.c, .slice y.o.a y.o.l.length y.o.c, .slice y.l.a y.l.l.length y.l.c, .slice y.w.a y.w.l.length y.w.c, I64 x.size, I64 x.at_, I64 x.tag, .slice A1 x.bytes.l.length c1] := ⟨_, rfl⟩
        have m6 : Fr (· = Y) w5 w6 := by rw [hw6]; exact (Fr.refl (· = Y) _).setCells _ _
        have y6 : Blk w6 Y 50 #[U8V x.kind, I64 x.group, I64 x.src, I64 x.dst, I64 x.term, I64 x.index, I64 x.logt, I64 x.commit, .bool x.ok, .slice A2 xs.length c2, I64 x.base.index, I64 x.base.term, .slice y.v.a y.v.l.length y.v.c, .slice y.o.a y.o.l.length y.o.c, .slice y.l.a y.l.l.length y.l.c, .slice y.w.a y.w.l.length y.w.c, I64 x.size, I64 x.at_, I64 x.tag, .slice A1 x.bytes.l.length c1] := by rw [hw6]; exact Blk.setCells (l := [U8V 0, I64 0, I64 0, I64 0, I64 0, I64 0, I64 0, I64 0, .bool false, .slice none 0 0, I64 0, I64 0, .slice none 0 0, .slice none 0 0, .slice none 0 0, .slice none 0 0, I64 0, I64 0, I64 0, .slice none 0 0]) y5 0 [U8V x.kind, I64 x.group, I64 x.src, I64 x.dst, I64 x.term, I64 x.index, I64 x.logt, I64 x.commit, .bool x.ok, .slice A2 xs.length c2, I64 x.base.index, I64 x.base.term, .slice y.v.a y.v.l.length y.v.c, .slice y.o.a y.o.l.length y.o.c, .slice y.l.a y.l.l.length y.l.c, .slice y.w.a y.w.l.length y.w.c, I64 x.size, I64 x.at_, I64 x.tag, .slice A1 x.bytes.l.length c1]
        have one6 : (#[U8V x.kind, I64 x.group, I64 x.src, I64 x.dst, I64 x.term, I64 x.index, I64 x.logt, I64 x.commit, .bool x.ok, .slice A2 xs.length c2, I64 x.base.index, I64 x.base.term, .slice y.v.a y.v.l.length y.v.c, .slice y.o.a y.o.l.length y.o.c, .slice y.l.a y.l.l.length y.l.c, .slice y.w.a y.w.l.length y.w.c, I64 x.size, I64 x.at_, I64 x.tag, .slice A1 x.bytes.l.length c1] : Array Value).all (·.oneCell') = true := by rw [List.all_toArray]; simp only [List.all_cons, List.all_nil]; rfl
        have el : ys.length = xs.length := hyl
        have hT := HT.out
        rw [List.take_of_length_le (Nat.le_refl _)] at hT
        have ho2 := ho
        rw [List.drop_of_length_le (Nat.le_refl _), List.append_nil] at ho2
        have res : ∃ y' : LetM, (.agg #[U8V x.kind, I64 x.group, I64 x.src, I64 x.dst, I64 x.term, I64 x.index, I64 x.logt, I64 x.commit, .bool x.ok, .slice A2 xs.length c2, I64 x.base.index, I64 x.base.term, .slice y.v.a y.v.l.length y.v.c, .slice y.o.a y.o.l.length y.o.c, .slice y.l.a y.l.l.length y.l.c, .slice y.w.a y.w.l.length y.w.c, I64 x.size, I64 x.at_, I64 x.tag, .slice A1 x.bytes.l.length c1] : Value) = .agg (letA y') ∧ y'.x = x.x ∧ LetOwn w w6 y' ∧ Nw w w6 := by
          have hAA : ∀ j, inA A1 j → ¬ inA A2 j := fun j h1 h2 => by
            rcases oe.own.2 with ⟨h, _⟩ | ⟨g, cur, h, hb, _⟩
            · exact inA_none _ (show inA none j from h ▸ h2)
            · have e1 : j = g := (inA_some _ _).1 (show inA (some ⟨g, 0, none⟩) j from h ▸ h2)
              subst e1
              exact ob.own.ne_ hb (by decide) h1
          have hm : Fr (fun j => j = X ∨ j = Y) w4 w6 := (m5.mono fun b hb => .inl (.inl hb)).tr (m6.mono fun b hb => .inl (.inr hb))
          have hn1 : ∀ j, W1.heap.size ≤ j → ¬ (j = X ∨ j = Y) := fun j hj h => by rcases h with h | h <;> omega
          have hs1 := Q1.size
          have hs3 := hq.size
          refine ⟨{ x with ents := ⟨A2, c2, ys⟩, base := ⟨x.base.index, x.base.term, y⟩, bytes := ⟨A1, c1, x.bytes.l⟩ }, by rw [← el], ?_, ⟨hx.kind, ?_, ⟨?_, fun j hj => Nat.le_trans hs1 (oe.base j hj)⟩, fun e he => ?_, ?_, HSR.out, fun e he i j hi hj => ?_, fun e he i j hi hj => ?_⟩, ?_⟩
          · show (⟨x.kind, x.group, x.src, x.dst, x.term, x.index, x.logt, x.commit, x.ok, ys.map EntM.x, ⟨x.base.index, x.base.term, y.x⟩, x.size, x.at_, x.tag, x.bytes.l⟩ : LetF) = _
            rw [hT, ey, ← HXS.out]
          · exact (((ob.fr hq hAA).nw q4).fr hm (fun j hj => hn1 j (ob.base j hj))).from_ hs1
          · show Own w6 87 7 A2 ys.length c2 (entsC ys)
            rw [el]
            exact (ho2.fr q4 (fun _ _ h => h)).fr hm (fun j hj => hn1 j (oe.base j hj))
          · exact (((HYS.out e he).nw q4).fr hm (fun j hj => hn1 j (Nat.le_trans hsz2 hj))).from_ (Nat.le_trans hs1 hsz2)
          · exact (oy.fr hm (fun j hj => hn1 j (Nat.le_trans hsz2 (Nat.le_trans hs3 hj)))).from_ (Nat.le_trans hs1 (Nat.le_trans hsz2 hs3))
          · have h1 := ob.own.lt i hi
            have h2 := ((HYS.out e he).has j hj).1
            omega
          · have h1 := ((HYS.out e he).has i hi).2
            have h2 := (oy.has j hj).1
            omega
          · exact (((Q2.new hq (fun b hb => Nat.le_trans hs1 (hbl b hb).1)).tr q4).new hm (fun b hb => by rcases hb with rfl | rfl <;> omega))
        have HR := Lib.hid res
        have HW5 := Lib.hid hw5
        have HW6 := Lib.hid hw6
        clear hw5 hw6 res hT HT HYS HSR ho ho2
        go_wp2_with (first | (refine wpList_store_mid rfl 45 _ _ rfl X 12 #[.slice y.v.a y.v.l.length y.v.c, .slice y.o.a y.o.l.length y.o.c, .slice y.l.a y.l.l.length y.l.c, .slice y.w.a y.w.l.length y.w.c] rfl rfl th (by kernel_rfl) one ?_; rw [← HW5.out]) | (refine wl_load_cells rfl 50 _ rfl X 0 rfl [U8V x.kind, I64 x.group, I64 x.src, I64 x.dst, I64 x.term, I64 x.index, I64 x.logt, I64 x.commit, .bool x.ok, .slice A2 xs.length c2, I64 x.base.index, I64 x.base.term, .slice y.v.a y.v.l.length y.v.c, .slice y.o.a y.o.l.length y.o.c, .slice y.l.a y.l.l.length y.l.c, .slice y.w.a y.w.l.length y.w.c, I64 x.size, I64 x.at_, I64 x.tag, .slice A1 x.bytes.l.length c1] _ lz Tryz.underlying50 rfl (by kernel_rfl) ?_) | (refine wpList_store_mid rfl 50 _ _ rfl Y 0 #[U8V x.kind, I64 x.group, I64 x.src, I64 x.dst, I64 x.term, I64 x.index, I64 x.logt, I64 x.commit, .bool x.ok, .slice A2 xs.length c2, I64 x.base.index, I64 x.base.term, .slice y.v.a y.v.l.length y.v.c, .slice y.o.a y.o.l.length y.o.c, .slice y.l.a y.l.l.length y.l.c, .slice y.w.a y.w.l.length y.w.c, I64 x.size, I64 x.at_, I64 x.tag, .slice A1 x.bytes.l.length c1] rfl rfl thz (by kernel_rfl) one6 ?_; rw [← HW6.out]))
        refine bodyPost_ret (v := .agg #[U8V x.kind, I64 x.group, I64 x.src, I64 x.dst, I64 x.term, I64 x.index, I64 x.logt, I64 x.commit, .bool x.ok, .slice A2 xs.length c2, I64 x.base.index, I64 x.base.term, .slice y.v.a y.v.l.length y.v.c, .slice y.o.a y.o.l.length y.o.c, .slice y.l.a y.l.l.length y.l.c, .slice y.w.a y.w.l.length y.w.c, I64 x.size, I64 x.at_, I64 x.tag, .slice A1 x.bytes.l.length c1]) ?_ rfl ?_
        · exact results_cell_row rfl _ _ Y 50 _ (0, 0) _ rfl y6 Tryz.underlying50 rfl (by kernel_rfl)
        obtain ⟨y', e1, e2, e3, e4⟩ := HR.out
        exact ⟨y', by rw [e1], e2, e3, e4⟩
end Go.Proofs.YtippdjaakcgeoaaGreat

namespace Go.Proofs.YtippdjaakcgeoaaGreat
open Go Go.RowKit
set_option linter.unusedVariables false
set_option linter.unusedSimpArgs false

theorem no_laid : laidOutB Tryz.prog = true := by kernel_rfl
theorem no_law : Maps.Keyed Tryz.prog 90 := Maps.Keyed.of_law (deep_law_laid no_laid (m := 2) (by omega) (of_decide_eq_true (by kernel_rfl)) (by kernel_rfl) (by kernel_rfl))
theorem no_size : ∃ m, Tryz.prog.types.size = m + 1 := by
  have h : (90 : Nat) < Tryz.prog.types.size := of_decide_eq_true (by kernel_rfl)
  exact ⟨Tryz.prog.types.size - 1, by omega⟩
theorem no_arr : WideMaps.ArrKey Tryz.prog 90 3 2 := ⟨Tryz.underlying90, by kernel_rfl, by kernel_rfl, by kernel_rfl⟩
theorem two_of (cs : Array Value) (h : cs.size = 2) : ∃ c0 c1, cs = #[c0, c1] := by
  obtain ⟨l⟩ := cs
  match l, h with
  | [c0, c1], _ => exact ⟨c0, c1, rfl⟩
theorem no_inv (v : Value) (kl : Lit) (h : keyOf Tryz.prog 90 v = some kl) : ∃ n, v = nmKey n ∧ NmWf n := by
  obtain ⟨m, hm⟩ := no_size
  have hc : Tryz.prog.cellsOf 90 = 2 := by kernel_rfl
  have hci : Tryz.prog.cellsOf 3 = 1 := by kernel_rfl
  unfold keyOf at h
  simp only [Tryz.underlying90] at h
  split at h
  · rename_i hcond
    simp only [Bool.and_eq_true] at hcond
    cases v with
    | agg cs =>
      have hs : cs.size = 2 := by
        have := hcond.2
        simp only [Value.formed, Tryz.underlying90, hc] at this
        simpa using this
      obtain ⟨c0, c1, rfl⟩ := two_of cs hs
      rw [hm] at h
      unfold Program.keyLits at h
      simp only [Tryz.underlying90, Value.cells] at h
      rw [if_pos (by rw [hc]; rfl), show List.range 2 = [0, 1] from rfl, List.mapM_cons, List.mapM_cons, List.mapM_nil] at h
      simp only [hci, Option.map_map, Option.map_eq_some_iff, bind, Option.bind_eq_some_iff, pure, Option.some.injEq] at h
      obtain ⟨_, ⟨y0, h0, _, ⟨y1, h1, _⟩, _⟩, _⟩ := h
      have e0 : ∃ x : Int, c0 = .int .i64 x ∧ (Lit.int .i64 x).wf = true := by
        unfold Program.keyLits at h0
        simp only [Tryz.underlying3] at h0
        cases c0 <;> simp at h0
        obtain ⟨⟨rfl, hw⟩, _⟩ := h0
        exact ⟨_, rfl, hw⟩
      have e1 : ∃ x : Int, c1 = .int .i64 x ∧ (Lit.int .i64 x).wf = true := by
        unfold Program.keyLits at h1
        simp only [Tryz.underlying3] at h1
        cases c1 <;> simp at h1
        obtain ⟨⟨rfl, hw⟩, _⟩ := h1
        exact ⟨_, rfl, hw⟩
      obtain ⟨x, rfl, hx⟩ := e0
      obtain ⟨y, rfl, hy⟩ := e1
      exact ⟨(x, y), rfl, hx, hy⟩
    | _ => simp [Value.formed, Tryz.underlying90] at hcond
  · cases h
theorem no_way : WayKey Tryz.prog 90 := ⟨no_law, fun n h => ⟨_, WideMaps.keyOf_pair no_arr Tryz.underlying3 no_size h.1 h.2⟩, no_inv⟩
end Go.Proofs.YtippdjaakcgeoaaGreat
