/- Letters: lists cloned, each in memory of its own. -/
import Derived.Test.YtippdjaakcgeoaaCpC
import Derived.Deep.RegionHeld3
namespace Go.Proofs.Ytippdjaakcgeoaa
open Go Go.RowKit
set_option linter.unusedVariables false
set_option linter.unusedSimpArgs false
/-- A list of the call's own, made since w0. -/
structure LsOwn {α : Type} (w0 w : World) (E : TypeId) (z : Nat) (f : List α → List Value) (s : Ls α) : Prop where
  own : Own w E z s.a s.l.length s.c (f s.l)
  base : ∀ k, inA s.a k → w0.heap.size ≤ k
theorem LsOwn.in_ {α : Type} {w0 w : World} {E : TypeId} {z : Nat} {f : List α → List Value} {s : Ls α} (h : LsOwn w0 w E z f s) : LsIn w (Since w0) f s :=
  ⟨h.own.sl.mono fun k hk _ => h.base k hk, h.own.cap_le⟩
theorem LsOwn.fr {α : Type} {w0 w w' : World} {S : Nat → Prop} {E : TypeId} {z : Nat} {f : List α → List Value} {s : Ls α} (h : LsOwn w0 w E z f s) (hf : Fr S w w') (hn : ∀ k, inA s.a k → ¬ S k) : LsOwn w0 w' E z f s := ⟨h.own.fr hf hn, h.base⟩
theorem LsOwn.nw {α : Type} {w0 w w' : World} {E : TypeId} {z : Nat} {f : List α → List Value} {s : Ls α} (h : LsOwn w0 w E z f s) (hf : Nw w w') : LsOwn w0 w' E z f s := h.fr hf (fun _ _ h => h)
theorem LsOwn.from_ {α : Type} {w0 w1 w : World} {E : TypeId} {z : Nat} {f : List α → List Value} {s : Ls α} (h : LsOwn w1 w E z f s) (hb : w0.heap.size ≤ w1.heap.size) : LsOwn w0 w E z f s := ⟨h.own, fun k hk => Nat.le_trans hb (h.base k hk)⟩
theorem LsOwn.lt {α : Type} {w0 w : World} {E : TypeId} {z : Nat} {f : List α → List Value} {s : Ls α} (h : LsOwn w0 w E z f s) : ∀ k, inA s.a k → k < w.heap.size := h.own.lt
theorem clone_int (w : World) (F : Nat → Prop) (A : Option Addr) (c : Nat) (l : List Int) (hs : Sl w F A (intsC l)) (hsz : l.length ≤ 1000000000) :
    Calls Try.prog 84 #[.slice A l.length c] w fun e w' => ∃ A' c', e = .returned (.slice A' l.length c') ∧ LsOwn w w' 3 1 intsC ⟨A', c', l⟩ ∧ Nw w w' := by
  have hnil := fun (w : World) (A : Option Addr) (n : Nat) => Lib.run_eql_slice_nil (P := Try.prog) w 33 3 A n c 0 0 Try.underlying33
  cases A with
  | none =>
    have hb : l = [] := by
      rcases hs with h | ⟨b, o, h, _⟩
      · simpa [intsC] using h
      · cases h
    subst hb
    go_enter Try.func84, Try.ntmps84
    go_wp2_with fail
    go_ret
    exact ⟨none, 0, rfl, ⟨Own.nil _ _ _, fun k hk => (inA_none k hk).elim⟩, Fr.refl _ _⟩
  | some a =>
    go_enter Try.func84, Try.ntmps84
    go_wp2_with (at_builtin; refine wl_append rfl _ _ _ rfl 8 (.int .i64 0) Try.underlying33 info_int rfl (by decide) rfl (Own.new w 3 1 0 0 #[] (Nat.le_refl _) (by decide) rfl) rfl (hs.alloc _) (by simp [intsC]) (intsC_cell l) (by omega) (by unfold maxLen; omega) ?_; intro A' cap' w1 ho hf hin)
    go_ret
    simp only [Nat.zero_add, Nat.zero_mul, List.take_zero, List.nil_append] at ho
    refine ⟨A', cap', rfl, ⟨ho, fun k hk => ?_⟩, ((Fr.refl _ w).alloc _).trans hf fun k hk => .inr ?_⟩
    · rcases hin k hk with h | h
      · rw [(inA_some _ _).1 h]; exact Nat.le_refl _
      · rw [h]; simp
    · rw [(inA_some _ _).1 hk]; exact Nat.le_refl _
theorem clone_by (w : World) (F : Nat → Prop) (A : Option Addr) (c : Nat) (l : List UInt8) (hs : Sl w F A (bytesC l)) (hsz : l.length ≤ 1000000000) :
    Calls Try.prog 56 #[.slice A l.length c] w fun e w' => ∃ A' c', e = .returned (.slice A' l.length c') ∧ LsOwn w w' 5 1 bytesC ⟨A', c', l⟩ ∧ Nw w w' :=
  (clone_u8 w F A c l hs (by omega)).mono fun e w' ⟨A', c', h1, h2, h3, h4⟩ => ⟨A', c', h1, ⟨h2, h4⟩, h3⟩
theorem clone_ent (w : World) (F : Nat → Prop) (A : Option Addr) (c : Nat) (l : List EntM) (hs : Sl w F A (entsC l)) (hsz : l.length ≤ 1000000000) :
    Calls Try.prog 57 #[.slice A l.length c] w fun e w' => ∃ A' c', e = .returned (.slice A' l.length c') ∧ LsOwn w w' 60 7 entsC ⟨A', c', l⟩ ∧ Nw w w' := by
  have hnil := fun (w : World) (A : Option Addr) (n : Nat) => Lib.run_eql_slice_nil (P := Try.prog) w 32 60 A n c 0 0 Try.underlying32
  cases A with
  | none =>
    have hb : l = [] := by
      rcases hs with h | ⟨b, o, h, _⟩
      · have := congrArg List.length h
        rw [entsC_len] at this
        exact List.eq_nil_of_length_eq_zero (by simp at this; omega)
      · cases h
    subst hb
    go_enter Try.func57, Try.ntmps57
    go_wp2_with fail
    go_ret
    exact ⟨none, 0, rfl, ⟨Own.nil _ _ _, fun k hk => (inA_none k hk).elim⟩, Fr.refl _ _⟩
  | some a =>
    have hl := entsC_len l
    go_enter Try.func57, Try.ntmps57
    go_wp2_with (at_builtin; refine wl_append (size := 7) rfl _ _ _ rfl 136 (.agg #[I64 0, U8V 0, .slice none 0 0, .slice none 0 0, .slice none 0 0, .slice none 0 0, .slice none 0 0]) Try.underlying32 info_ent rfl (by decide) rfl (Own.new w 60 7 0 0 #[] (Nat.le_refl _) (by decide) rfl) rfl (hs.alloc _) hl (entsC_cell l) (by omega) (by unfold maxLen; omega) ?_; intro A' cap' w1 ho hf hin)
    go_ret
    simp only [Nat.zero_add, Nat.zero_mul, List.take_zero, List.nil_append] at ho
    refine ⟨A', cap', rfl, ⟨ho, fun k hk => ?_⟩, ((Fr.refl _ w).alloc _).trans hf fun k hk => .inr ?_⟩
    · rcases hin k hk with h | h
      · rw [(inA_some _ _).1 h]; exact Nat.le_refl _
      · rw [h]; simp
    · rw [(inA_some _ _).1 hk]; exact Nat.le_refl _
/-- A config whose lists are its own: each made behind the one ahead. -/
structure CfgOwn (w0 w : World) (c : CfgM) : Prop where
  v : LsOwn w0 w 3 1 intsC c.v
  o : LsOwn w0 w 3 1 intsC c.o
  l : LsOwn w0 w 3 1 intsC c.l
  w : LsOwn w0 w 3 1 intsC c.w
  vo : ∀ k j, inA c.v.a k → inA c.o.a j → k < j
  ol : ∀ k j, inA c.o.a k → inA c.l.a j → k < j
  lw : ∀ k j, inA c.l.a k → inA c.w.a j → k < j
  vl : ∀ k j, inA c.v.a k → inA c.l.a j → k < j
  vw : ∀ k j, inA c.v.a k → inA c.w.a j → k < j
  ow : ∀ k j, inA c.o.a k → inA c.w.a j → k < j
theorem CfgOwn.nw {w0 w w' : World} {c : CfgM} (h : CfgOwn w0 w c) (f : Nw w w') : CfgOwn w0 w' c := { h with v := h.v.nw f, o := h.o.nw f, l := h.l.nw f, w := h.w.nw f }
theorem CfgOwn.fr {w0 w w' : World} {S : Nat → Prop} {c : CfgM} (h : CfgOwn w0 w c) (f : Fr S w w') (hn : ∀ k, w0.heap.size ≤ k → ¬ S k) : CfgOwn w0 w' c :=
  { h with v := h.v.fr f (fun k hk => hn k (h.v.base k hk)), o := h.o.fr f (fun k hk => hn k (h.o.base k hk)), l := h.l.fr f (fun k hk => hn k (h.l.base k hk)), w := h.w.fr f (fun k hk => hn k (h.w.base k hk)) }
theorem CfgOwn.from_ {w0 w1 w : World} {c : CfgM} (h : CfgOwn w1 w c) (hb : w0.heap.size ≤ w1.heap.size) : CfgOwn w0 w c := { h with v := h.v.from_ hb, o := h.o.from_ hb, l := h.l.from_ hb, w := h.w.from_ hb }
theorem CfgOwn.in_ {w0 w : World} {c : CfgM} (h : CfgOwn w0 w c) : CfgIn w (Since w0) c := ⟨h.v.in_, h.o.in_, h.l.in_, h.w.in_⟩
set_option maxRecDepth 100000 in
set_option maxHeartbeats 8000000 in
theorem lconfig_any (w : World) (F : Nat → Prop) (x : CfgM) (hx : CfgIn w F x) (hz : CfgSz x) :
    Calls Try.prog 58 #[.agg (cfgA x)] w fun e w' => ∃ y : CfgM, e = .returned (.agg (cfgA y)) ∧ y.x = x.x ∧ CfgOwn w w' y ∧ Nw w w' := by
  obtain ⟨X, hX⟩ : ∃ X, X = w.heap.size := ⟨_, rfl⟩
  obtain ⟨Y, hY⟩ : ∃ Y, Y = w.heap.size + 1 := ⟨_, rfl⟩
  obtain ⟨W0, hW0⟩ : ∃ W, W = w.alloc (.cells (cfgA x) 35) := ⟨_, rfl⟩
  have p0 : Nw w W0 := by rw [hW0]; exact (Fr.refl (fun _ => False) _).alloc _
  have x0 : Blk W0 X 35 (cfgA x) := by rw [hW0, hX]; exact Blk.new _ _ _
  have hz0 : W0.heap.size = Y := by rw [hW0, hY]; simp
  obtain ⟨W1, hW1⟩ : ∃ W, W = W0.alloc (.cells #[.slice none 0 0, .slice none 0 0, .slice none 0 0, .slice none 0 0] 35) := ⟨_, rfl⟩
  have p1 : Nw W0 W1 := by rw [hW1]; exact (Fr.refl (fun _ => False) _).alloc _
  have y1 : Blk W1 Y 35 #[.slice none 0 0, .slice none 0 0, .slice none 0 0, .slice none 0 0] := by rw [hW1, ← hz0]; exact Blk.new _ _ _
  have x1 := x0.fr p1 (fun h => h)
  have pw := p0.tr p1
  have hS : ∀ w1, Nw W1 w1 → w1.cell? ⟨X, 0, none⟩ = some x.v.v ∧ w1.cell? ⟨X, 1, none⟩ = some x.o.v ∧ w1.cell? ⟨X, 2, none⟩ = some x.l.v ∧ w1.cell? ⟨X, 3, none⟩ = some x.w.v := fun w1 f => by
    have a := x1.fr f (fun h => h)
    exact ⟨by simpa using a.cell 0, by simpa using a.cell 1, by simpa using a.cell 2, by simpa using a.cell 3⟩
  have zv : ∀ w1, Nw W1 w1 → _ := fun w1 f => clone_int w1 F x.v.a x.v.c x.v.l (hx.v.nw (pw.tr f)).sl (by have := hz.v; omega)
  have zo : ∀ w1, Nw W1 w1 → _ := fun w1 f => clone_int w1 F x.o.a x.o.c x.o.l (hx.o.nw (pw.tr f)).sl (by have := hz.o; omega)
  have zl : ∀ w1, Nw W1 w1 → _ := fun w1 f => clone_int w1 F x.l.a x.l.c x.l.l (hx.l.nw (pw.tr f)).sl (by have := hz.l; omega)
  have zw : ∀ w1, Nw W1 w1 → _ := fun w1 f => clone_int w1 F x.w.a x.w.c x.w.l (hx.w.nw (pw.tr f)).sl (by have := hz.w; omega)
  have Q0 : Nw W1 W1.drew := (Fr.refl (fun _ => False) W1).drew
  have HX := Lib.hid hX
  have HY := Lib.hid hY
  have HW0 := Lib.hid hW0
  have HW1 := Lib.hid hW1
  have HS := Lib.hid hS
  have HV := Lib.hid zv
  have HO := Lib.hid zo
  have HL := Lib.hid zl
  have HWW := Lib.hid zw
  have hXY : X ≠ Y := by omega
  have hYw : w.heap.size ≤ Y := by omega
  have holdc : ∀ (w1 w2 w3 w4 : World) (A1 A2 A3 A4 : Option Addr) (c1 c2 c3 c4 : Nat), Nw W1 w4 → (((w4.setCell ⟨Y, 0, none⟩ (.slice A1 x.v.l.length c1))).cell? ⟨X, 0, none⟩ = some x.v.v ∧ ((w4.setCell ⟨Y, 0, none⟩ (.slice A1 x.v.l.length c1))).cell? ⟨X, 1, none⟩ = some x.o.v ∧ ((w4.setCell ⟨Y, 0, none⟩ (.slice A1 x.v.l.length c1))).cell? ⟨X, 2, none⟩ = some x.l.v ∧ ((w4.setCell ⟨Y, 0, none⟩ (.slice A1 x.v.l.length c1))).cell? ⟨X, 3, none⟩ = some x.w.v) ∧ ((((w4.setCell ⟨Y, 0, none⟩ (.slice A1 x.v.l.length c1)).setCell ⟨Y, 1, none⟩ (.slice A2 x.o.l.length c2))).cell? ⟨X, 0, none⟩ = some x.v.v ∧ (((w4.setCell ⟨Y, 0, none⟩ (.slice A1 x.v.l.length c1)).setCell ⟨Y, 1, none⟩ (.slice A2 x.o.l.length c2))).cell? ⟨X, 1, none⟩ = some x.o.v ∧ (((w4.setCell ⟨Y, 0, none⟩ (.slice A1 x.v.l.length c1)).setCell ⟨Y, 1, none⟩ (.slice A2 x.o.l.length c2))).cell? ⟨X, 2, none⟩ = some x.l.v ∧ (((w4.setCell ⟨Y, 0, none⟩ (.slice A1 x.v.l.length c1)).setCell ⟨Y, 1, none⟩ (.slice A2 x.o.l.length c2))).cell? ⟨X, 3, none⟩ = some x.w.v) ∧ (((((w4.setCell ⟨Y, 0, none⟩ (.slice A1 x.v.l.length c1)).setCell ⟨Y, 1, none⟩ (.slice A2 x.o.l.length c2)).setCell ⟨Y, 2, none⟩ (.slice A3 x.l.l.length c3))).cell? ⟨X, 0, none⟩ = some x.v.v ∧ ((((w4.setCell ⟨Y, 0, none⟩ (.slice A1 x.v.l.length c1)).setCell ⟨Y, 1, none⟩ (.slice A2 x.o.l.length c2)).setCell ⟨Y, 2, none⟩ (.slice A3 x.l.l.length c3))).cell? ⟨X, 1, none⟩ = some x.o.v ∧ ((((w4.setCell ⟨Y, 0, none⟩ (.slice A1 x.v.l.length c1)).setCell ⟨Y, 1, none⟩ (.slice A2 x.o.l.length c2)).setCell ⟨Y, 2, none⟩ (.slice A3 x.l.l.length c3))).cell? ⟨X, 2, none⟩ = some x.l.v ∧ ((((w4.setCell ⟨Y, 0, none⟩ (.slice A1 x.v.l.length c1)).setCell ⟨Y, 1, none⟩ (.slice A2 x.o.l.length c2)).setCell ⟨Y, 2, none⟩ (.slice A3 x.l.l.length c3))).cell? ⟨X, 3, none⟩ = some x.w.v) ∧ ((((((w4.setCell ⟨Y, 0, none⟩ (.slice A1 x.v.l.length c1)).setCell ⟨Y, 1, none⟩ (.slice A2 x.o.l.length c2)).setCell ⟨Y, 2, none⟩ (.slice A3 x.l.l.length c3)).setCell ⟨Y, 3, none⟩ (.slice A4 x.w.l.length c4))).cell? ⟨X, 0, none⟩ = some x.v.v ∧ (((((w4.setCell ⟨Y, 0, none⟩ (.slice A1 x.v.l.length c1)).setCell ⟨Y, 1, none⟩ (.slice A2 x.o.l.length c2)).setCell ⟨Y, 2, none⟩ (.slice A3 x.l.l.length c3)).setCell ⟨Y, 3, none⟩ (.slice A4 x.w.l.length c4))).cell? ⟨X, 1, none⟩ = some x.o.v ∧ (((((w4.setCell ⟨Y, 0, none⟩ (.slice A1 x.v.l.length c1)).setCell ⟨Y, 1, none⟩ (.slice A2 x.o.l.length c2)).setCell ⟨Y, 2, none⟩ (.slice A3 x.l.l.length c3)).setCell ⟨Y, 3, none⟩ (.slice A4 x.w.l.length c4))).cell? ⟨X, 2, none⟩ = some x.l.v ∧ (((((w4.setCell ⟨Y, 0, none⟩ (.slice A1 x.v.l.length c1)).setCell ⟨Y, 1, none⟩ (.slice A2 x.o.l.length c2)).setCell ⟨Y, 2, none⟩ (.slice A3 x.l.l.length c3)).setCell ⟨Y, 3, none⟩ (.slice A4 x.w.l.length c4))).cell? ⟨X, 3, none⟩ = some x.w.v) := by
    intro w1 w2 w3 w4 A1 A2 A3 A4 c1 c2 c3 c4 f
    have a := x1.fr f (fun h => h)
    have a1 := a.fr ((Fr.refl (· = Y) w4).set1 0 (.slice A1 x.v.l.length c1)) (fun e => hXY e)
    have a2 := a.fr (((Fr.refl (· = Y) w4).set1 0 (.slice A1 x.v.l.length c1)).set1 1 (.slice A2 x.o.l.length c2)) (fun e => hXY e)
    have a3 := a.fr ((((Fr.refl (· = Y) w4).set1 0 (.slice A1 x.v.l.length c1)).set1 1 (.slice A2 x.o.l.length c2)).set1 2 (.slice A3 x.l.l.length c3)) (fun e => hXY e)
    have a4 := a.fr (((((Fr.refl (· = Y) w4).set1 0 (.slice A1 x.v.l.length c1)).set1 1 (.slice A2 x.o.l.length c2)).set1 2 (.slice A3 x.l.l.length c3)).set1 3 (.slice A4 x.w.l.length c4)) (fun e => hXY e)
    exact ⟨⟨by simpa using a1.cell 0, by simpa using a1.cell 1, by simpa using a1.cell 2, by simpa using a1.cell 3⟩, ⟨by simpa using a2.cell 0, by simpa using a2.cell 1, by simpa using a2.cell 2, by simpa using a2.cell 3⟩, ⟨by simpa using a3.cell 0, by simpa using a3.cell 1, by simpa using a3.cell 2, by simpa using a3.cell 3⟩, ⟨by simpa using a4.cell 0, by simpa using a4.cell 1, by simpa using a4.cell 2, by simpa using a4.cell 3⟩⟩
  clear hX hY hW0 hW1 hz0 x0 hS zv zo zl zw
  go_enter Try.func58, Try.ntmps58
  go_upto_region 1 with (fail)
  rw [← HY.out, ← HX.out, ← HW0.out, ← HW1.out]
  go_region_held3 (fun w' => w'.cell? ⟨X, 0, none⟩ = some x.v.v ∧ w'.cell? ⟨X, 1, none⟩ = some x.o.v ∧ w'.cell? ⟨X, 2, none⟩ = some x.l.v ∧ w'.cell? ⟨X, 3, none⟩ = some x.w.v) (first | (with_reducible exact HS.out _ Q0) | (with_reducible exact s1) | (with_reducible exact s2) | (with_reducible exact s3) | (with_reducible exact s4) | (with_reducible exact s5.1) | (with_reducible exact s5.2.1) | (with_reducible exact s5.2.2.1) | (with_reducible exact s5.2.2.2) | fail)
    ((first | (go_at_call 84; refine (HWW.out w3 Q3).mono ?_; rintro e w4 ⟨A4, c4, rfl, o4, q4⟩; have Q4 := Q3.tr q4; have s4 := HS.out w4 Q4; have s5 : _ := holdc w1 w2 w3 w4 A1 A2 A3 A4 c1 c2 c3 c4 Q4; have yb := y1.fr Q4 (fun h => h); have yc0 : w4.cell? ⟨Y, 0, none⟩ = some (.slice none 0 0) := (by simpa using yb.cell 0); have yc1 : w4.cell? ⟨Y, 1, none⟩ = some (.slice none 0 0) := (by simpa using yb.cell 1); have yc2 : w4.cell? ⟨Y, 2, none⟩ = some (.slice none 0 0) := (by simpa using yb.cell 2); have yc3 : w4.cell? ⟨Y, 3, none⟩ = some (.slice none 0 0) := (by simpa using yb.cell 3); have yf0 := yb.frozen 0; have yf1 := yb.frozen 1; have yf2 := yb.frozen 2; have yf3 := yb.frozen 3) | (go_at_call 84; refine (HL.out w2 Q2).mono ?_; rintro e w3 ⟨A3, c3, rfl, o3, q3⟩; have Q3 := Q2.tr q3; have s3 := HS.out w3 Q3) | (go_at_call 84; refine (HO.out w1 Qa).mono ?_; rintro e w2 ⟨A2, c2, rfl, o2, q2⟩; have Q2 := Qa.tr q2; have s2 := HS.out w2 Q2) | (go_at_call 84; refine (HV.out _ Q0).mono ?_; rintro e w1 ⟨A1, c1, rfl, o1, q1⟩; have Qa := Q0.tr q1; have s1 := HS.out w1 Qa)))
  have yz := (((yb.set_ 0 (.slice A1 x.v.l.length c1)).set_ 1 (.slice A2 x.o.l.length c2)).set_ 2 (.slice A3 x.l.l.length c3)).set_ 3 (.slice A4 x.w.l.length c4)
  have hYlt := y1.lt
  have f0 : Fr (· = Y) w4 ((((w4.setCell ⟨Y, 0, none⟩ (.slice A1 x.v.l.length c1)).setCell ⟨Y, 1, none⟩ (.slice A2 x.o.l.length c2)).setCell ⟨Y, 2, none⟩ (.slice A3 x.l.l.length c3)).setCell ⟨Y, 3, none⟩ (.slice A4 x.w.l.length c4)) := ((((Fr.refl (· = Y) w4).set1 _ _).set1 _ _).set1 _ _).set1 _ _
  have hb1 : W1.heap.size ≤ w1.heap.size := Qa.size
  have hb2 := Q2.size
  have hb3 := Q3.size
  have hpw := pw.size
  have l1 := o1.lt
  have l2 := o2.lt
  have l3 := o3.lt
  have b2 := o2.base
  have b3 := o3.base
  have b4 := o4.base
  have g1 : LsOwn W1 w4 3 1 intsC ⟨A1, c1, x.v.l⟩ := ((o1.from_ (Q0.size)).nw q2).nw (q3.tr q4)
  have g2 : LsOwn W1 w4 3 1 intsC ⟨A2, c2, x.o.l⟩ := ((o2.from_ hb1).nw q3).nw q4
  have g3 : LsOwn W1 w4 3 1 intsC ⟨A3, c3, x.l.l⟩ := (o3.from_ hb2).nw q4
  have g4 : LsOwn W1 w4 3 1 intsC ⟨A4, c4, x.w.l⟩ := o4.from_ hb3
  have hco : CfgOwn W1 w4 ⟨⟨A1, c1, x.v.l⟩, ⟨A2, c2, x.o.l⟩, ⟨A3, c3, x.l.l⟩, ⟨A4, c4, x.w.l⟩⟩ := ⟨g1, g2, g3, g4,
    fun k j h1 h2 => Nat.lt_of_lt_of_le (l1 k h1) (b2 j h2), fun k j h1 h2 => Nat.lt_of_lt_of_le (l2 k h1) (b3 j h2), fun k j h1 h2 => Nat.lt_of_lt_of_le (l3 k h1) (b4 j h2),
    fun k j h1 h2 => Nat.lt_of_lt_of_le (l1 k h1) (Nat.le_trans q2.size (b3 j h2)), fun k j h1 h2 => Nat.lt_of_lt_of_le (l1 k h1) (Nat.le_trans (q2.tr q3).size (b4 j h2)), fun k j h1 h2 => Nat.lt_of_lt_of_le (l2 k h1) (Nat.le_trans q3.size (b4 j h2))⟩
  go_wp2_with fail
  refine bodyPost_ret (v := .agg #[.slice A1 x.v.l.length c1, .slice A2 x.o.l.length c2, .slice A3 x.l.l.length c3, .slice A4 x.w.l.length c4]) ?_ rfl ?_
  · exact results_cell_row rfl _ _ Y 35 _ (0, 0) _ rfl yz Try.underlying35 rfl (by kernel_rfl)
  exact ⟨⟨⟨A1, c1, x.v.l⟩, ⟨A2, c2, x.o.l⟩, ⟨A3, c3, x.l.l⟩, ⟨A4, c4, x.w.l⟩⟩, rfl, ⟨rfl, rfl, rfl, rfl⟩, ((hco.fr f0 (fun k hk e => by omega)).from_ hpw), (pw.tr Q4).new f0 (fun b hb => by omega)⟩
end Go.Proofs.Ytippdjaakcgeoaa
