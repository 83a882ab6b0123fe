/- Lemmas of the walks: LtA. (Laid together by shake.py.) -/
import Derived.Test.YtippdjaakcgeoaaGreatNe03
set_option linter.unusedVariables false
set_option linter.unusedSimpArgs false
namespace Go.Proofs.YtippdjaakcgeoaaGreat
open Go Go.RowKit
set_option linter.unusedVariables false
set_option linter.unusedSimpArgs false
/-- The marks of a place in a list. -/
def mkI (k i : Nat) : Int := 1000003 * ((k : Int) + 7) + (i : Int)
def mkEn (k i : Nat) : EntM := { entMZ with term := mkI k i }
def mkLe (k i : Nat) : LetM := { letMZ with tag := mkI k i }
def behI : List Int := (List.range 12).map (mkI 1)
def behE : List EntM := (List.range 12).map (mkEn 1)
def behL : List LetM := (List.range 12).map (mkLe 1)
theorem behI_len : behI.length = 12 := by simp [behI]
theorem behE_len : behE.length = 12 := by simp [behE]
theorem behL_len : behL.length = 12 := by simp [behL]
/-- A list that was lent: marks lie behind it. -/
def LsLent {α : Type} (w : World) (F : Nat → Prop) (E : TypeId) (z : Nat) (f : List α → List Value) (bh : List α) (s : Ls α) : Prop :=
  ∃ g, s.a = some ⟨g, 0, none⟩ ∧ s.c = s.l.length + 12 ∧ s.c ≤ maxLen ∧ Own w E z (some ⟨g, 0, none⟩) (s.l.length + 12) (s.l.length + 12) (f (s.l ++ bh)) ∧ F g
structure CfgLent (w : World) (F : Nat → Prop) (c : CfgM) : Prop where
  v : LsLent w F 3 1 intsC behI c.v
  o : LsLent w F 3 1 intsC behI c.o
  l : LsLent w F 3 1 intsC behI c.l
  w : LsLent w F 3 1 intsC behI c.w
structure EntLent (w : World) (F : Nat → Prop) (e : EntM) : Prop where
  kind : 0 ≤ e.kind ∧ e.kind ≤ 255
  cmd : LsLent w F 5 1 bytesC behind e.cmd
  cfg : CfgLent w F e.cfg
structure EntsLent (w : World) (F : Nat → Prop) (s : Ls EntM) : Prop where
  ls : LsLent w F 87 7 entsC behE s
  each : ∀ e ∈ s.l, EntLent w F e
structure LetLent (w : World) (F : Nat → Prop) (x : LetM) : Prop where
  kind : 0 ≤ x.kind ∧ x.kind ≤ 255
  ents : EntsLent w F x.ents
  cfg : CfgLent w F x.base.cfg
  bytes : LsLent w F 5 1 bytesC behind x.bytes
structure LetsLent (w : World) (F : Nat → Prop) (s : Ls LetM) : Prop where
  ls : LsLent w F 50 20 letsC behL s
  each : ∀ e ∈ s.l, LetLent w F e
section
variable {w w' : World} {F F' S : Nat → Prop} {α : Type} {f : List α → List Value} {E : TypeId} {z : Nat} {bh : List α}
theorem LsLent.fr {s : Ls α} (h : LsLent w F E z f bh s) (hf : Fr S w w') (hn : ∀ k, F k → ¬ S k) : LsLent w' F E z f bh s := by
  obtain ⟨g, h1, h2, h3, h4, h5⟩ := h
  exact ⟨g, h1, h2, h3, h4.fr hf (fun k hk => by rw [(inA_some _ _).1 hk]; exact hn g h5), h5⟩
theorem LsLent.mono {s : Ls α} (h : LsLent w F E z f bh s) (hF : ∀ k, F k → k < w.heap.size → F' k) : LsLent w F' E z f bh s := by
  obtain ⟨g, h1, h2, h3, h4, h5⟩ := h
  exact ⟨g, h1, h2, h3, h4, hF g h5 (h4.lt g ((inA_some _ _).2 rfl))⟩
theorem CfgLent.fr {c : CfgM} (h : CfgLent w F c) (hf : Fr S w w') (hn : ∀ k, F k → ¬ S k) : CfgLent w' F c := ⟨h.v.fr hf hn, h.o.fr hf hn, h.l.fr hf hn, h.w.fr hf hn⟩
theorem CfgLent.mono {c : CfgM} (h : CfgLent w F c) (hF : ∀ k, F k → k < w.heap.size → F' k) : CfgLent w F' c := ⟨h.v.mono hF, h.o.mono hF, h.l.mono hF, h.w.mono hF⟩
theorem EntLent.fr {c : EntM} (h : EntLent w F c) (hf : Fr S w w') (hn : ∀ k, F k → ¬ S k) : EntLent w' F c := ⟨h.kind, h.cmd.fr hf hn, h.cfg.fr hf hn⟩
theorem EntLent.mono {c : EntM} (h : EntLent w F c) (hF : ∀ k, F k → k < w.heap.size → F' k) : EntLent w F' c := ⟨h.kind, h.cmd.mono hF, h.cfg.mono hF⟩
theorem EntsLent.fr {c : Ls EntM} (h : EntsLent w F c) (hf : Fr S w w') (hn : ∀ k, F k → ¬ S k) : EntsLent w' F c := ⟨h.ls.fr hf hn, fun e he => (h.each e he).fr hf hn⟩
theorem EntsLent.mono {c : Ls EntM} (h : EntsLent w F c) (hF : ∀ k, F k → k < w.heap.size → F' k) : EntsLent w F' c := ⟨h.ls.mono hF, fun e he => (h.each e he).mono hF⟩
theorem LetLent.fr {c : LetM} (h : LetLent w F c) (hf : Fr S w w') (hn : ∀ k, F k → ¬ S k) : LetLent w' F c := ⟨h.kind, h.ents.fr hf hn, h.cfg.fr hf hn, h.bytes.fr hf hn⟩
theorem LetLent.mono {c : LetM} (h : LetLent w F c) (hF : ∀ k, F k → k < w.heap.size → F' k) : LetLent w F' c := ⟨h.kind, h.ents.mono hF, h.cfg.mono hF, h.bytes.mono hF⟩
theorem LetsLent.fr {c : Ls LetM} (h : LetsLent w F c) (hf : Fr S w w') (hn : ∀ k, F k → ¬ S k) : LetsLent w' F c := ⟨h.ls.fr hf hn, fun e he => (h.each e he).fr hf hn⟩
theorem LetsLent.mono {c : Ls LetM} (h : LetsLent w F c) (hF : ∀ k, F k → k < w.heap.size → F' k) : LetsLent w F' c := ⟨h.ls.mono hF, fun e he => (h.each e he).mono hF⟩
theorem LsLent.nw {s : Ls α} (h : LsLent w F E z f bh s) (hf : Nw w w') : LsLent w' F E z f bh s := h.fr hf (fun _ _ h => h)
theorem CfgLent.nw {c : CfgM} (h : CfgLent w F c) (hf : Nw w w') : CfgLent w' F c := h.fr hf (fun _ _ h => h)
theorem EntLent.nw {c : EntM} (h : EntLent w F c) (hf : Nw w w') : EntLent w' F c := h.fr hf (fun _ _ h => h)
theorem EntsLent.nw {c : Ls EntM} (h : EntsLent w F c) (hf : Nw w w') : EntsLent w' F c := h.fr hf (fun _ _ h => h)
theorem LetLent.nw {c : LetM} (h : LetLent w F c) (hf : Nw w w') : LetLent w' F c := h.fr hf (fun _ _ h => h)
/-- What was lent reads as it is. -/
theorem LsLent.in_ {s : Ls α} (h : LsLent w F E z f bh s) (ht : ∀ (l m : List α), f (l ++ m) = f l ++ f m) : LsIn w F f s := by
  obtain ⟨g, h1, h2, h3, h4, h5⟩ := h
  refine ⟨?_, by omega, h3⟩
  have h6 := h4.sl.pre (k := (f s.l).length)
  rw [ht, List.take_left' rfl, ← h1] at h6
  exact h6.mono fun k hk _ => by rw [h1] at hk; rw [(inA_some _ _).1 hk]; exact h5
theorem bytesC_append (l m : List UInt8) : bytesC (l ++ m) = bytesC l ++ bytesC m := by simp [bytesC]
theorem CfgLent.in_ {c : CfgM} (h : CfgLent w F c) : CfgIn w F c := ⟨h.v.in_ intsC_append, h.o.in_ intsC_append, h.l.in_ intsC_append, h.w.in_ intsC_append⟩
theorem EntLent.in_ {c : EntM} (h : EntLent w F c) : EntIn w F c := ⟨h.kind, h.cmd.in_ bytesC_append, h.cfg.in_⟩
theorem EntsLent.in_ {c : Ls EntM} (h : EntsLent w F c) : EntsIn w F c := ⟨h.ls.in_ entsC_append, fun e he => (h.each e he).in_⟩
theorem LetLent.in_ {c : LetM} (h : LetLent w F c) : LetIn w F c := ⟨h.kind, h.ents.in_.ls, h.ents.in_.each, h.cfg.in_, h.bytes.in_ bytesC_append⟩
theorem LetsLent.in_ {c : Ls LetM} (h : LetsLent w F c) : LetsIn w F c := ⟨h.ls.in_ letsC_append, fun e he => (h.each e he).in_⟩
end
theorem markI_any (w : World) (k i : Nat) (hk : k ≤ 1000000000000) (hi : i ≤ 100000000000000) :
    Calls Tryz.prog 136 #[.int .i64 (k : Int), .int .i64 (i : Int)] w fun e w' => e = .returned (.int .i64 (mkI k i)) ∧ w = w' := mark_any w k i (by omega) (by omega) (by omega) (by omega)
set_option maxRecDepth 100000 in
theorem markEntry_any (w : World) (k i : Nat) (hk : k ≤ 1000000000000) (hi : i ≤ 100000000000000) :
    Calls Tryz.prog 138 #[.int .i64 (k : Int), .int .i64 (i : Int)] w fun e w' => e = .returned (.agg (entA (mkEn k i))) ∧ Nw w w' := by
  have hone := entA_one (mkEn k i)
  have hT := Blk.new w 87 #[I64 0, U8V 0, .slice none 0 0, .slice none 0 0, .slice none 0 0, .slice none 0 0, .slice none 0 0]
  have hmk := markI_any (w.alloc (.cells #[I64 0, U8V 0, .slice none 0 0, .slice none 0 0, .slice none 0 0, .slice none 0 0, .slice none 0 0] 87)) k i hk hi
  go_enter Tryz.func138, Tryz.ntmps138
  go_wp2_with fail
  refine hmk.mono ?_
  rintro e w1 ⟨rfl, rfl⟩
  have hE := hT.row (entA (mkEn k i))
  go_wp2_with (refine wpList_store_row rfl 87 _ _ rfl w.heap.size (entA (mkEn k i)) rfl rfl 87 _ hT (by kernel_rfl) rfl hone ?_)
  refine bodyPost_ret (v := .agg (entA (mkEn k i))) ?_ rfl ?_
  · exact results_cell_row rfl _ _ w.heap.size 87 _ (0, 0) _ rfl hE Tryz.underlying87 rfl (by kernel_rfl)
  exact ⟨rfl, ((Fr.refl (fun _ => False) w).alloc _).setRow (.inr (Nat.le_refl _)) _⟩
set_option maxRecDepth 100000 in
theorem markLetter_any (w : World) (k i : Nat) (hk : k ≤ 1000000000000) (hi : i ≤ 100000000000000) :
    Calls Tryz.prog 65 #[.int .i64 (k : Int), .int .i64 (i : Int)] w fun e w' => e = .returned (.agg (letA (mkLe k i))) ∧ Nw w w' := by
  have hone := letA_one (mkLe k i)
  have hT := Blk.new w 50 #[U8V 0, I64 0, I64 0, I64 0, I64 0, I64 0, I64 0, I64 0, .bool false, .slice none 0 0, I64 0, I64 0, .slice none 0 0, .slice none 0 0, .slice none 0 0, .slice none 0 0, I64 0, I64 0, I64 0, .slice none 0 0]
  have hmk := markI_any (w.alloc (.cells #[U8V 0, I64 0, I64 0, I64 0, I64 0, I64 0, I64 0, I64 0, .bool false, .slice none 0 0, I64 0, I64 0, .slice none 0 0, .slice none 0 0, .slice none 0 0, .slice none 0 0, I64 0, I64 0, I64 0, .slice none 0 0] 50)) k i hk hi
  go_enter Tryz.func65, Tryz.ntmps65
  go_wp2_with fail
  refine hmk.mono ?_
  rintro e w1 ⟨rfl, rfl⟩
  have hE := hT.row (letA (mkLe k i))
  go_wp2_with (refine wpList_store_row rfl 50 _ _ rfl w.heap.size (letA (mkLe k i)) rfl rfl 50 _ hT (by kernel_rfl) rfl hone ?_)
  refine bodyPost_ret (v := .agg (letA (mkLe k i))) ?_ rfl ?_
  · exact results_cell_row rfl _ _ w.heap.size 50 _ (0, 0) _ rfl hE Tryz.underlying50 rfl (by kernel_rfl)
  exact ⟨rfl, ((Fr.refl (fun _ => False) w).alloc _).setRow (.inr (Nat.le_refl _)) _⟩
theorem under_ints : Tryz.prog.underlying 41 = some (.slice (Tryz.prog.elem 41)) := by kernel_rfl
theorem size_ints (w : World) : (sizeOf (Tryz.prog.elem 41)).run Tryz.prog w = .ok 1 w := by kernel_rfl
theorem under_ents : Tryz.prog.underlying 43 = some (.slice (Tryz.prog.elem 43)) := by kernel_rfl
theorem size_ents (w : World) : (sizeOf (Tryz.prog.elem 43)).run Tryz.prog w = .ok 7 w := by kernel_rfl
theorem under_lets : Tryz.prog.underlying 28 = some (.slice (Tryz.prog.elem 28)) := by kernel_rfl
theorem size_lets (w : World) : (sizeOf (Tryz.prog.elem 28)).run Tryz.prog w = .ok 20 w := by kernel_rfl
def LentIR (w : World) (g : Nat) (ys : List Int) (v i : Value) (wr : World) : Prop :=
  ∃ k : Nat, k ≤ 12 ∧ i = .int .i64 k ∧ v = .slice (some ⟨g, 0, none⟩) (ys.length + k) (ys.length + 12) ∧ Own wr 3 1 (some ⟨g, 0, none⟩) (ys.length + k) (ys.length + 12) (intsC (ys ++ (List.range k).map (mkI 1))) ∧ Nw w wr
set_option maxRecDepth 100000 in
theorem lent_ints (w : World) (F : Nat → Prop) (A : Option Addr) (c : Nat) (ys : List Int) (h : Sl w F A (intsC ys)) (hsz : ys.length ≤ 1000000000) :
    Calls Tryz.prog 202 #[.slice A ys.length c] w fun e w' => ∃ A' c', e = .returned (.slice A' ys.length c') ∧ LsLent w' (Since w) 3 1 intsC behI ⟨A', c', ys⟩ ∧ Nw w w' := by
  go_enter Tryz.func202, Tryz.ntmps202
  go_wp2_with (first | (at_make; refine wl_make0 rfl _ _ _ rfl 8 (.int .i64 0) Tryz.underlying41 info_int .i64 .i64 ((ys.length : Int) + 12) (ys.length + 12) rfl rfl (by omega) (by omega) (by unfold maxLen; omega) ?_; intro w1 ho1 hq1; have hs1 := h.fr hq1 (fun _ _ h => h)) | (at_builtin; refine wl_append2 rfl _ _ _ rfl 8 (.int .i64 0) Tryz.underlying41 info_int rfl (by decide) rfl ho1 rfl hs1 (by simp [intsC]) (intsC_cell ys) (by omega) (by unfold maxLen; omega) ?_; intro A' cap' w2 hap))
  rcases hap with ⟨ho2, _, ⟨_, rfl, rfl, hf2⟩ | ⟨hlt, _⟩⟩
  rotate_left
  · omega
  simp only [Nat.zero_add, List.nil_append] at ho2 ⊢
  have hq2 : Nw w w2 := hq1.new hf2 (fun k hk => by rw [(inA_some _ _).1 hk]; exact Nat.le_refl _)
  clear hf2 ho1 hs1 hq1
  go_wp2_with fail
  go_loopw [3, 4] (fun v i wr => LentIR w w.heap.size ys v i wr) (fun _ i _ => 12 - (intOf i).toNat)
  case atStart => exact ⟨0, by omega, rfl, rfl, by simpa using ho2, hq2⟩
  case round =>
    obtain ⟨k, hk, rfl, rfl, ho, hq⟩ := hrel
    by_cases hlt : k < 12
    · have hmk := fun w1 => markI_any w1 1 k (by omega) (by omega)
      have HMK := Lib.hid hmk
      clear hmk
      go_wp2_with (first | (go_at_call 136; refine (HMK.out _).mono ?_; rintro e w3 ⟨rfl, rfl⟩) | (at_builtin; refine wl_append2 rfl _ _ _ rfl 8 (.int .i64 0) Tryz.underlying41 info_int rfl (by decide) rfl (ho.alloc _) rfl (sl_new _ 3 (intsC [mkI 1 k]) _ rfl) rfl (intsC_cell [mkI 1 k]) (by omega) (by unfold maxLen; omega) ?_; intro A' cap' w2 hap))
      rcases hap with ⟨ho3, _, ⟨_, rfl, rfl, hf3⟩ | ⟨hlt, _⟩⟩
      rotate_left
      · omega
      have hq3 : Nw w w2 := (hq.alloc _).new hf3 (fun k hk => by rw [(inA_some _ _).1 hk]; exact Nat.le_refl _)
      go_wp2_with fail
      go_roundw
      case rel =>
        refine ⟨k + 1, by omega, by go_num, by simp [Nat.add_assoc], ?_, hq3⟩
        rw [List.range_succ]
        have e : ys.length + (k + 1) = ys.length + k + 1 := by omega
        rw [e, List.map_append, ← List.append_assoc, intsC_append]
        exact ho3
      case measure => simp [intOf]; omega
    · have hk12 : k = 12 := by omega
      subst hk12
      have hs := slice_h (P := Tryz.prog) 41 under_ints 1 size_ints (some ⟨w.heap.size, 0, none⟩) (ys.length + 12) (ys.length + 12) ys.length (by omega)
      go_wp2_with fail
      go_ret
      exact ⟨some ⟨w.heap.size, 0, none⟩, ys.length + 12, rfl, ⟨_, rfl, rfl, by show ys.length + 12 ≤ maxLen; unfold maxLen; omega, ho, Nat.le_refl _⟩, hq⟩
theorem lent_by (w : World) (F : Nat → Prop) (A : Option Addr) (c : Nat) (ys : List UInt8) (h : Sl w F A (bytesC ys)) (hsz : ys.length ≤ 1000000000) :
    Calls Tryz.prog 42 #[.slice A ys.length c] w fun e w' => ∃ A' c', e = .returned (.slice A' ys.length c') ∧ LsLent w' (Since w) 5 1 bytesC behind ⟨A', c', ys⟩ ∧ Nw w w' :=
  (lent_u8 w F A c ys h (by omega)).mono fun e w' ⟨g, h1, h2, h3, h4⟩ => ⟨some ⟨g, 0, none⟩, ys.length + 12, h1, ⟨g, rfl, rfl, by show ys.length + 12 ≤ maxLen; unfold maxLen; omega, h2, h4⟩, h3⟩
set_option maxRecDepth 100000 in
set_option maxHeartbeats 4000000 in
theorem lent_cfg (w : World) (F : Nat → Prop) (x : CfgM) (hx : CfgIn w F x) (hz : CfgSz x) :
    Calls Tryz.prog 139 #[.agg (cfgA x)] w fun e w' => ∃ y : CfgM, e = .returned (.agg (cfgA y)) ∧ y.x = x.x ∧ CfgLent w' (Since w) y ∧ Nw w w' := by
  obtain ⟨X, hX⟩ : ∃ X, X = w.heap.size := ⟨_, rfl⟩
  obtain ⟨Y, hY⟩ : ∃ Y, Y = w.heap.size + 1 := ⟨_, rfl⟩
  obtain ⟨W0, hW0⟩ : ∃ W, W = w.alloc (.cells #[.slice x.v.a x.v.l.length x.v.c, .slice x.o.a x.o.l.length x.o.c, .slice x.l.a x.l.l.length x.l.c, .slice x.w.a x.w.l.length x.w.c] 45) := ⟨_, rfl⟩
  have p0 : Nw w W0 := by rw [hW0]; exact (Fr.refl (fun _ => False) _).alloc _
  have x0 : Blk W0 X 45 #[.slice x.v.a x.v.l.length x.v.c, .slice x.o.a x.o.l.length x.o.c, .slice x.l.a x.l.l.length x.l.c, .slice x.w.a x.w.l.length x.w.c] := by rw [hW0, hX]; exact Blk.new _ _ _
  have hz0 : W0.heap.size = Y := by rw [hW0, hY]; simp
  obtain ⟨W1, hW1⟩ : ∃ W, W = W0.alloc (.cells #[.slice none 0 0, .slice none 0 0, .slice none 0 0, .slice none 0 0] 45) := ⟨_, rfl⟩
  have p1 : Nw W0 W1 := by rw [hW1]; exact (Fr.refl (fun _ => False) _).alloc _
  have y1 : Blk W1 Y 45 #[.slice none 0 0, .slice none 0 0, .slice none 0 0, .slice none 0 0] := by rw [hW1, ← hz0]; exact Blk.new _ _ _
  have x1 := x0.fr p1 (fun h => h)
  have Q1 : Nw w W1 := p0.tr p1
  have hXw : w.heap.size ≤ X := by omega
  have hYw : w.heap.size ≤ Y := by omega
  have hXY : X ≠ Y := by omega
  have hXS : ∀ b, Since W1 b → ¬ b = X := fun b hb he => by have := x1.lt; unfold Since at hb; omega
  have hYS : ∀ b, Since W1 b → ¬ b = Y := fun b hb he => by have := y1.lt; unfold Since at hb; omega
  have hS1 : W1.heap.size ≤ W1.heap.size := Nat.le_refl _
  have hSw := Q1.size
  have HX := Lib.hid hX
  have HY := Lib.hid hY
  have HW0 := Lib.hid hW0
  have HW1 := Lib.hid hW1
  have HZ0 := Lib.hid hz0
  clear hX hY hW0 hW1 hz0 x0
  go_enter Tryz.func139, Tryz.ntmps139
  go_upto_region 1 with (fail)
  rw [← HY.out, ← HX.out, ← HW0.out, ← HW1.out]
  have l2 : W1.cell? ⟨X, 0, none⟩ = some (.slice x.v.a x.v.l.length x.v.c) := by simpa using x1.cell 0
  go_wp2_with fail
  refine (lent_ints _ F _ _ _ ((hx.v.nw Q1).sl) (by have := hz.v; omega)).mono ?_
  rintro e v2 ⟨A1, c1, rfl, w1, q2⟩
  have Qv2 : Nw w v2 := Q1.tr q2
  have xv2 := x1.fr q2 (fun h => h)
  have yv2 := y1.fr q2 (fun h => h)
  have f2 := xv2.frozen 0
  have g2 : v2.cell? ⟨X, 0, none⟩ = some (.slice x.v.a x.v.l.length x.v.c) := by simpa using xv2.cell 0
  obtain ⟨W2, hW2⟩ : ∃ W, W = v2.setCell ⟨X, 0, none⟩ (.slice A1 x.v.l.length c1) := ⟨_, rfl⟩
  have x2 : Blk W2 X 45 #[.slice A1 x.v.l.length c1, .slice x.o.a x.o.l.length x.o.c, .slice x.l.a x.l.l.length x.l.c, .slice x.w.a x.w.l.length x.w.c] := by rw [hW2]; exact xv2.set_ 0 _
  have m2 : Fr (· = X) v2 W2 := by rw [hW2]; exact (Fr.refl (· = X) _).set1 _ _
  have y2 := yv2.fr m2 (fun h => hXY h.symm)
  have Q2 : Nw w W2 := Qv2.new m2 (fun b hb => by omega)
  have n1 := (w1.mono (F' := Since W1) (fun k hk _ => Nat.le_trans hS1 hk)).fr m2 hXS
  have hS2 : W1.heap.size ≤ W2.heap.size := Nat.le_trans (Nat.le_trans hS1 q2.size) m2.size
  have HW2 := Lib.hid hW2
  clear hW2 l2
  go_upto_region 2 with (fail)
  rw [← HW2.out]
  clear f2 g2
  have l3 : W2.cell? ⟨X, 1, none⟩ = some (.slice x.o.a x.o.l.length x.o.c) := by simpa using x2.cell 1
  go_wp2_with fail
  refine (lent_ints _ F _ _ _ ((hx.o.nw Q2).sl) (by have := hz.o; omega)).mono ?_
  rintro e v3 ⟨A2, c2, rfl, w2, q3⟩
  have Qv3 : Nw w v3 := Q2.tr q3
  have xv3 := x2.fr q3 (fun h => h)
  have yv3 := y2.fr q3 (fun h => h)
  have f3 := xv3.frozen 1
  have g3 : v3.cell? ⟨X, 1, none⟩ = some (.slice x.o.a x.o.l.length x.o.c) := by simpa using xv3.cell 1
  obtain ⟨W3, hW3⟩ : ∃ W, W = v3.setCell ⟨X, 1, none⟩ (.slice A2 x.o.l.length c2) := ⟨_, rfl⟩
  have x3 : Blk W3 X 45 #[.slice A1 x.v.l.length c1, .slice A2 x.o.l.length c2, .slice x.l.a x.l.l.length x.l.c, .slice x.w.a x.w.l.length x.w.c] := by rw [hW3]; exact xv3.set_ 1 _
  have m3 : Fr (· = X) v3 W3 := by rw [hW3]; exact (Fr.refl (· = X) _).set1 _ _
  have y3 := yv3.fr m3 (fun h => hXY h.symm)
  have Q3 : Nw w W3 := Qv3.new m3 (fun b hb => by omega)
  have n1 := (n1.nw q3).fr m3 hXS
  have n2 := (w2.mono (F' := Since W1) (fun k hk _ => Nat.le_trans hS2 hk)).fr m3 hXS
  have hS3 : W1.heap.size ≤ W3.heap.size := Nat.le_trans (Nat.le_trans hS2 q3.size) m3.size
  have HW3 := Lib.hid hW3
  clear hW3 l3
  go_upto_region 3 with (fail)
  rw [← HW3.out]
  clear f3 g3
  have l4 : W3.cell? ⟨X, 2, none⟩ = some (.slice x.l.a x.l.l.length x.l.c) := by simpa using x3.cell 2
  go_wp2_with fail
  refine (lent_ints _ F _ _ _ ((hx.l.nw Q3).sl) (by have := hz.l; omega)).mono ?_
  rintro e v4 ⟨A3, c3, rfl, w3, q4⟩
  have Qv4 : Nw w v4 := Q3.tr q4
  have xv4 := x3.fr q4 (fun h => h)
  have yv4 := y3.fr q4 (fun h => h)
  have f4 := xv4.frozen 2
  have g4 : v4.cell? ⟨X, 2, none⟩ = some (.slice x.l.a x.l.l.length x.l.c) := by simpa using xv4.cell 2
  obtain ⟨W4, hW4⟩ : ∃ W, W = v4.setCell ⟨X, 2, none⟩ (.slice A3 x.l.l.length c3) := ⟨_, rfl⟩
  have x4 : Blk W4 X 45 #[.slice A1 x.v.l.length c1, .slice A2 x.o.l.length c2, .slice A3 x.l.l.length c3, .slice x.w.a x.w.l.length x.w.c] := by rw [hW4]; exact xv4.set_ 2 _
  have m4 : Fr (· = X) v4 W4 := by rw [hW4]; exact (Fr.refl (· = X) _).set1 _ _
  have y4 := yv4.fr m4 (fun h => hXY h.symm)
  have Q4 : Nw w W4 := Qv4.new m4 (fun b hb => by omega)
  have n1 := (n1.nw q4).fr m4 hXS
  have n2 := (n2.nw q4).fr m4 hXS
  have n3 := (w3.mono (F' := Since W1) (fun k hk _ => Nat.le_trans hS3 hk)).fr m4 hXS
  have hS4 : W1.heap.size ≤ W4.heap.size := Nat.le_trans (Nat.le_trans hS3 q4.size) m4.size
  have HW4 := Lib.hid hW4
  clear hW4 l4
  go_upto_region 4 with (fail)
  rw [← HW4.out]
  clear f4 g4
  have l5 : W4.cell? ⟨X, 3, none⟩ = some (.slice x.w.a x.w.l.length x.w.c) := by simpa using x4.cell 3
  go_wp2_with fail
  refine (lent_ints _ F _ _ _ ((hx.w.nw Q4).sl) (by have := hz.w; omega)).mono ?_
  rintro e v5 ⟨A4, c4, rfl, w4, q5⟩
  have Qv5 : Nw w v5 := Q4.tr q5
  have xv5 := x4.fr q5 (fun h => h)
  have yv5 := y4.fr q5 (fun h => h)
  have f5 := xv5.frozen 3
  have g5 : v5.cell? ⟨X, 3, none⟩ = some (.slice x.w.a x.w.l.length x.w.c) := by simpa using xv5.cell 3
  obtain ⟨W5, hW5⟩ : ∃ W, W = v5.setCell ⟨X, 3, none⟩ (.slice A4 x.w.l.length c4) := ⟨_, rfl⟩
  have x5 : Blk W5 X 45 #[.slice A1 x.v.l.length c1, .slice A2 x.o.l.length c2, .slice A3 x.l.l.length c3, .slice A4 x.w.l.length c4] := by rw [hW5]; exact xv5.set_ 3 _
  have m5 : Fr (· = X) v5 W5 := by rw [hW5]; exact (Fr.refl (· = X) _).set1 _ _
  have y5 := yv5.fr m5 (fun h => hXY h.symm)
  have Q5 : Nw w W5 := Qv5.new m5 (fun b hb => by omega)
  have n1 := (n1.nw q5).fr m5 hXS
  have n2 := (n2.nw q5).fr m5 hXS
  have n3 := (n3.nw q5).fr m5 hXS
  have n4 := (w4.mono (F' := Since W1) (fun k hk _ => Nat.le_trans hS4 hk)).fr m5 hXS
  have hS5 : W1.heap.size ≤ W5.heap.size := Nat.le_trans (Nat.le_trans hS4 q5.size) m5.size
  have HW5 := Lib.hid hW5
  clear hW5 l5
  go_upto_region 5 with (fail)
  rw [← HW5.out]
  clear f5 g5
  have lz : ∀ p u, ([.slice A1 x.v.l.length c1, .slice A2 x.o.l.length c2, .slice A3 x.l.l.length c3, .slice A4 x.w.l.length c4] : List Value)[p]? = some u → W5.cell? ⟨X, 0 + p, none⟩ = some u := Blk.cells_in x5 0 4
  have hz := Blk.there (l := [.slice none 0 0, .slice none 0 0, .slice none 0 0, .slice none 0 0]) y5 0 4 (by show 0 + 4 ≤ 4; omega)
  have oz : (#[.slice A1 x.v.l.length c1, .slice A2 x.o.l.length c2, .slice A3 x.l.l.length c3, .slice A4 x.w.l.length c4] : Array Value).all (·.oneCell') = true := by rw [List.all_toArray]; simp only [List.all_cons, List.all_nil]; rfl
  obtain ⟨WZ, hWZ⟩ : ∃ W, W = W5.setCells Y 0 [.slice A1 x.v.l.length c1, .slice A2 x.o.l.length c2, .slice A3 x.l.l.length c3, .slice A4 x.w.l.length c4] := ⟨_, rfl⟩
  have yz : Blk WZ Y 45 #[.slice A1 x.v.l.length c1, .slice A2 x.o.l.length c2, .slice A3 x.l.l.length c3, .slice A4 x.w.l.length c4] := by rw [hWZ]; exact Blk.setCells (l := [.slice none 0 0, .slice none 0 0, .slice none 0 0, .slice none 0 0]) y5 0 [.slice A1 x.v.l.length c1, .slice A2 x.o.l.length c2, .slice A3 x.l.l.length c3, .slice A4 x.w.l.length c4]
  have mz : Fr (· = Y) W5 WZ := by rw [hWZ]; exact (Fr.refl (· = Y) _).setCells _ _
  have QZ : Nw w WZ := Q5.new mz (fun b hb => by omega)
  have HWZ := Lib.hid hWZ
  clear hWZ
  have n1 := (n1.fr mz hYS).mono (F' := Since w) (fun k hk _ => Nat.le_trans hSw hk)
  have n2 := (n2.fr mz hYS).mono (F' := Since w) (fun k hk _ => Nat.le_trans hSw hk)
  have n3 := (n3.fr mz hYS).mono (F' := Since w) (fun k hk _ => Nat.le_trans hSw hk)
  have n4 := (n4.fr mz hYS).mono (F' := Since w) (fun k hk _ => Nat.le_trans hSw hk)
  go_wp2_with (first | (refine wl_load_cells rfl 45 _ rfl X 0 rfl [.slice A1 x.v.l.length c1, .slice A2 x.o.l.length c2, .slice A3 x.l.l.length c3, .slice A4 x.w.l.length c4] _ lz Tryz.underlying45 rfl (by kernel_rfl) ?_) | (refine wpList_store_mid rfl 45 _ _ rfl Y 0 #[.slice A1 x.v.l.length c1, .slice A2 x.o.l.length c2, .slice A3 x.l.l.length c3, .slice A4 x.w.l.length c4] rfl rfl hz (by kernel_rfl) oz ?_; rw [← HWZ.out]))
  refine bodyPost_ret (v := .agg #[.slice A1 x.v.l.length c1, .slice A2 x.o.l.length c2, .slice A3 x.l.l.length c3, .slice A4 x.w.l.length c4]) ?_ rfl ?_
  · exact results_cell_row rfl _ _ Y 45 _ (0, 0) _ rfl yz Tryz.underlying45 rfl (by kernel_rfl)
  exact ⟨⟨⟨A1, c1, x.v.l⟩, ⟨A2, c2, x.o.l⟩, ⟨A3, c3, x.l.l⟩, ⟨A4, c4, x.w.l⟩⟩, rfl, rfl, ⟨n1, n2, n3, n4⟩, QZ⟩
set_option maxRecDepth 100000 in
set_option maxHeartbeats 4000000 in
theorem lent_ent (w : World) (F : Nat → Prop) (x : EntM) (hx : EntIn w F x) (hz : EntSz x) :
    Calls Tryz.prog 137 #[.agg (entA x)] w fun e w' => ∃ y : EntM, e = .returned (.agg (entA y)) ∧ y.x = x.x ∧ EntLent w' (Since w) y ∧ Nw w w' := by
  obtain ⟨X, hX⟩ : ∃ X, X = w.heap.size := ⟨_, rfl⟩
  obtain ⟨Y, hY⟩ : ∃ Y, Y = w.heap.size + 1 := ⟨_, rfl⟩
  obtain ⟨W0, hW0⟩ : ∃ W, W = w.alloc (.cells #[I64 x.term, U8V x.kind, .slice x.cmd.a x.cmd.l.length x.cmd.c, .slice x.cfg.v.a x.cfg.v.l.length x.cfg.v.c, .slice x.cfg.o.a x.cfg.o.l.length x.cfg.o.c, .slice x.cfg.l.a x.cfg.l.l.length x.cfg.l.c, .slice x.cfg.w.a x.cfg.w.l.length x.cfg.w.c] 87) := ⟨_, rfl⟩
  have p0 : Nw w W0 := by rw [hW0]; exact (Fr.refl (fun _ => False) _).alloc _
  have x0 : Blk W0 X 87 #[I64 x.term, U8V x.kind, .slice x.cmd.a x.cmd.l.length x.cmd.c, .slice x.cfg.v.a x.cfg.v.l.length x.cfg.v.c, .slice x.cfg.o.a x.cfg.o.l.length x.cfg.o.c, .slice x.cfg.l.a x.cfg.l.l.length x.cfg.l.c, .slice x.cfg.w.a x.cfg.w.l.length x.cfg.w.c] := by rw [hW0, hX]; exact Blk.new _ _ _
  have hz0 : W0.heap.size = Y := by rw [hW0, hY]; simp
  obtain ⟨W1, hW1⟩ : ∃ W, W = W0.alloc (.cells #[I64 0, U8V 0, .slice none 0 0, .slice none 0 0, .slice none 0 0, .slice none 0 0, .slice none 0 0] 87) := ⟨_, rfl⟩
  have p1 : Nw W0 W1 := by rw [hW1]; exact (Fr.refl (fun _ => False) _).alloc _
  have y1 : Blk W1 Y 87 #[I64 0, U8V 0, .slice none 0 0, .slice none 0 0, .slice none 0 0, .slice none 0 0, .slice none 0 0] := by rw [hW1, ← hz0]; exact Blk.new _ _ _
  have x1 := x0.fr p1 (fun h => h)
  have Q1 : Nw w W1 := p0.tr p1
  have hXw : w.heap.size ≤ X := by omega
  have hYw : w.heap.size ≤ Y := by omega
  have hXY : X ≠ Y := by omega
  have hXS : ∀ b, Since W1 b → ¬ b = X := fun b hb he => by have := x1.lt; unfold Since at hb; omega
  have hYS : ∀ b, Since W1 b → ¬ b = Y := fun b hb he => by have := y1.lt; unfold Since at hb; omega
  have hS1 : W1.heap.size ≤ W1.heap.size := Nat.le_refl _
  have hSw := Q1.size
  have HX := Lib.hid hX
  have HY := Lib.hid hY
  have HW0 := Lib.hid hW0
  have HW1 := Lib.hid hW1
  have HZ0 := Lib.hid hz0
  clear hX hY hW0 hW1 hz0 x0
  go_enter Tryz.func137, Tryz.ntmps137
  go_upto_region 1 with (fail)
  rw [← HY.out, ← HX.out, ← HW0.out, ← HW1.out]
  have l2 : W1.cell? ⟨X, 2, none⟩ = some (.slice x.cmd.a x.cmd.l.length x.cmd.c) := by simpa using x1.cell 2
  go_wp2_with fail
  refine (lent_by _ F _ _ _ ((hx.cmd.nw Q1).sl) (by have := hz.cmd; omega)).mono ?_
  rintro e v2 ⟨A1, c1, rfl, w1, q2⟩
  have Qv2 : Nw w v2 := Q1.tr q2
  have xv2 := x1.fr q2 (fun h => h)
  have yv2 := y1.fr q2 (fun h => h)
  have f2 := xv2.frozen 2
  have g2 : v2.cell? ⟨X, 2, none⟩ = some (.slice x.cmd.a x.cmd.l.length x.cmd.c) := by simpa using xv2.cell 2
  obtain ⟨W2, hW2⟩ : ∃ W, W = v2.setCell ⟨X, 2, none⟩ (.slice A1 x.cmd.l.length c1) := ⟨_, rfl⟩
  have x2 : Blk W2 X 87 #[I64 x.term, U8V x.kind, .slice A1 x.cmd.l.length c1, .slice x.cfg.v.a x.cfg.v.l.length x.cfg.v.c, .slice x.cfg.o.a x.cfg.o.l.length x.cfg.o.c, .slice x.cfg.l.a x.cfg.l.l.length x.cfg.l.c, .slice x.cfg.w.a x.cfg.w.l.length x.cfg.w.c] := by rw [hW2]; exact xv2.set_ 2 _
  have m2 : Fr (· = X) v2 W2 := by rw [hW2]; exact (Fr.refl (· = X) _).set1 _ _
  have y2 := yv2.fr m2 (fun h => hXY h.symm)
  have Q2 : Nw w W2 := Qv2.new m2 (fun b hb => by omega)
  have n1 := (w1.mono (F' := Since W1) (fun k hk _ => Nat.le_trans hS1 hk)).fr m2 hXS
  have hS2 : W1.heap.size ≤ W2.heap.size := Nat.le_trans (Nat.le_trans hS1 q2.size) m2.size
  have HW2 := Lib.hid hW2
  clear hW2 l2
  go_upto_region 2 with (fail)
  rw [← HW2.out]
  clear f2 g2
  have l3 : ∀ p u, ([.slice x.cfg.v.a x.cfg.v.l.length x.cfg.v.c, .slice x.cfg.o.a x.cfg.o.l.length x.cfg.o.c, .slice x.cfg.l.a x.cfg.l.l.length x.cfg.l.c, .slice x.cfg.w.a x.cfg.w.l.length x.cfg.w.c] : List Value)[p]? = some u → W2.cell? ⟨X, 3 + p, none⟩ = some u := Blk.cells_in x2 3 4
  go_wp2_with (refine wl_load_cells rfl 45 _ rfl X 3 rfl [.slice x.cfg.v.a x.cfg.v.l.length x.cfg.v.c, .slice x.cfg.o.a x.cfg.o.l.length x.cfg.o.c, .slice x.cfg.l.a x.cfg.l.l.length x.cfg.l.c, .slice x.cfg.w.a x.cfg.w.l.length x.cfg.w.c] _ l3 Tryz.underlying45 rfl (by kernel_rfl) ?_)
  refine (lent_cfg _ F x.cfg (hx.cfg.nw Q2) hz.cfg).mono ?_
  rintro e v3 ⟨g2, rfl, e2, w2, q3⟩
  have Qv3 : Nw w v3 := Q2.tr q3
  have xv3 := x2.fr q3 (fun h => h)
  have yv3 := y2.fr q3 (fun h => h)
  have h3 := Blk.there (l := [I64 x.term, U8V x.kind, .slice A1 x.cmd.l.length c1, .slice x.cfg.v.a x.cfg.v.l.length x.cfg.v.c, .slice x.cfg.o.a x.cfg.o.l.length x.cfg.o.c, .slice x.cfg.l.a x.cfg.l.l.length x.cfg.l.c, .slice x.cfg.w.a x.cfg.w.l.length x.cfg.w.c]) xv3 3 4 (by show 3 + 4 ≤ 7; omega)
  obtain ⟨W3, hW3⟩ : ∃ W, W = v3.setCells X 3 [.slice g2.v.a g2.v.l.length g2.v.c, .slice g2.o.a g2.o.l.length g2.o.c, .slice g2.l.a g2.l.l.length g2.l.c, .slice g2.w.a g2.w.l.length g2.w.c] := ⟨_, rfl⟩
  have x3 : Blk W3 X 87 #[I64 x.term, U8V x.kind, .slice A1 x.cmd.l.length c1, .slice g2.v.a g2.v.l.length g2.v.c, .slice g2.o.a g2.o.l.length g2.o.c, .slice g2.l.a g2.l.l.length g2.l.c, .slice g2.w.a g2.w.l.length g2.w.c] := by rw [hW3]; exact Blk.setCells (l := [I64 x.term, U8V x.kind, .slice A1 x.cmd.l.length c1, .slice x.cfg.v.a x.cfg.v.l.length x.cfg.v.c, .slice x.cfg.o.a x.cfg.o.l.length x.cfg.o.c, .slice x.cfg.l.a x.cfg.l.l.length x.cfg.l.c, .slice x.cfg.w.a x.cfg.w.l.length x.cfg.w.c]) xv3 3 [.slice g2.v.a g2.v.l.length g2.v.c, .slice g2.o.a g2.o.l.length g2.o.c, .slice g2.l.a g2.l.l.length g2.l.c, .slice g2.w.a g2.w.l.length g2.w.c]
  have m3 : Fr (· = X) v3 W3 := by rw [hW3]; exact (Fr.refl (· = X) _).setCells _ _
  have o3 : (#[.slice g2.v.a g2.v.l.length g2.v.c, .slice g2.o.a g2.o.l.length g2.o.c, .slice g2.l.a g2.l.l.length g2.l.c, .slice g2.w.a g2.w.l.length g2.w.c] : Array Value).all (·.oneCell') = true := by rw [List.all_toArray]; simp only [List.all_cons, List.all_nil]; rfl
  have y3 := yv3.fr m3 (fun h => hXY h.symm)
  have Q3 : Nw w W3 := Qv3.new m3 (fun b hb => by omega)
  have n1 := (n1.nw q3).fr m3 hXS
  have n2 := (w2.mono (F' := Since W1) (fun k hk _ => Nat.le_trans hS2 hk)).fr m3 hXS
  have hS3 : W1.heap.size ≤ W3.heap.size := Nat.le_trans (Nat.le_trans hS2 q3.size) m3.size
  have HW3 := Lib.hid hW3
  clear hW3 l3
  go_upto_region 3 with (refine wpList_store_mid rfl 45 _ _ rfl X 3 #[.slice g2.v.a g2.v.l.length g2.v.c, .slice g2.o.a g2.o.l.length g2.o.c, .slice g2.l.a g2.l.l.length g2.l.c, .slice g2.w.a g2.w.l.length g2.w.c] rfl rfl h3 (by kernel_rfl) o3 ?_)
  rw [← HW3.out]
  have lz : ∀ p u, ([I64 x.term, U8V x.kind, .slice A1 x.cmd.l.length c1, .slice g2.v.a g2.v.l.length g2.v.c, .slice g2.o.a g2.o.l.length g2.o.c, .slice g2.l.a g2.l.l.length g2.l.c, .slice g2.w.a g2.w.l.length g2.w.c] : List Value)[p]? = some u → W3.cell? ⟨X, 0 + p, none⟩ = some u := Blk.cells_in x3 0 7
  have hz := Blk.there (l := [I64 0, U8V 0, .slice none 0 0, .slice none 0 0, .slice none 0 0, .slice none 0 0, .slice none 0 0]) y3 0 7 (by show 0 + 7 ≤ 7; omega)
  have oz : (#[I64 x.term, U8V x.kind, .slice A1 x.cmd.l.length c1, .slice g2.v.a g2.v.l.length g2.v.c, .slice g2.o.a g2.o.l.length g2.o.c, .slice g2.l.a g2.l.l.length g2.l.c, .slice g2.w.a g2.w.l.length g2.w.c] : Array Value).all (·.oneCell') = true := by rw [List.all_toArray]; simp only [List.all_cons, List.all_nil]; rfl
  obtain ⟨WZ, hWZ⟩ : ∃ W, W = W3.setCells Y 0 [I64 x.term, U8V x.kind, .slice A1 x.cmd.l.length c1, .slice g2.v.a g2.v.l.length g2.v.c, .slice g2.o.a g2.o.l.length g2.o.c, .slice g2.l.a g2.l.l.length g2.l.c, .slice g2.w.a g2.w.l.length g2.w.c] := ⟨_, rfl⟩
  have yz : Blk WZ Y 87 #[I64 x.term, U8V x.kind, .slice A1 x.cmd.l.length c1, .slice g2.v.a g2.v.l.length g2.v.c, .slice g2.o.a g2.o.l.length g2.o.c, .slice g2.l.a g2.l.l.length g2.l.c, .slice g2.w.a g2.w.l.length g2.w.c] := by rw [hWZ]; exact Blk.setCells (l := [I64 0, U8V 0, .slice none 0 0, .slice none 0 0, .slice none 0 0, .slice none 0 0, .slice none 0 0]) y3 0 [I64 x.term, U8V x.kind, .slice A1 x.cmd.l.length c1, .slice g2.v.a g2.v.l.length g2.v.c, .slice g2.o.a g2.o.l.length g2.o.c, .slice g2.l.a g2.l.l.length g2.l.c, .slice g2.w.a g2.w.l.length g2.w.c]
  have mz : Fr (· = Y) W3 WZ := by rw [hWZ]; exact (Fr.refl (· = Y) _).setCells _ _
  have QZ : Nw w WZ := Q3.new mz (fun b hb => by omega)
  have HWZ := Lib.hid hWZ
  clear hWZ
  have n1 := (n1.fr mz hYS).mono (F' := Since w) (fun k hk _ => Nat.le_trans hSw hk)
  have n2 := (n2.fr mz hYS).mono (F' := Since w) (fun k hk _ => Nat.le_trans hSw hk)
  go_wp2_with (first | (refine wl_load_cells rfl 87 _ rfl X 0 rfl [I64 x.term, U8V x.kind, .slice A1 x.cmd.l.length c1, .slice g2.v.a g2.v.l.length g2.v.c, .slice g2.o.a g2.o.l.length g2.o.c, .slice g2.l.a g2.l.l.length g2.l.c, .slice g2.w.a g2.w.l.length g2.w.c] _ lz Tryz.underlying87 rfl (by kernel_rfl) ?_) | (refine wpList_store_mid rfl 87 _ _ rfl Y 0 #[I64 x.term, U8V x.kind, .slice A1 x.cmd.l.length c1, .slice g2.v.a g2.v.l.length g2.v.c, .slice g2.o.a g2.o.l.length g2.o.c, .slice g2.l.a g2.l.l.length g2.l.c, .slice g2.w.a g2.w.l.length g2.w.c] rfl rfl hz (by kernel_rfl) oz ?_; rw [← HWZ.out]))
  refine bodyPost_ret (v := .agg #[I64 x.term, U8V x.kind, .slice A1 x.cmd.l.length c1, .slice g2.v.a g2.v.l.length g2.v.c, .slice g2.o.a g2.o.l.length g2.o.c, .slice g2.l.a g2.l.l.length g2.l.c, .slice g2.w.a g2.w.l.length g2.w.c]) ?_ rfl ?_
  · exact results_cell_row rfl _ _ Y 87 _ (0, 0) _ rfl yz Tryz.underlying87 rfl (by kernel_rfl)
  exact ⟨⟨x.term, x.kind, ⟨A1, c1, x.cmd.l⟩, g2⟩, rfl, by show (⟨x.term, x.kind, x.cmd.l, g2.x⟩ : Ent) = _; rw [e2], ⟨hx.kind, n1, n2⟩, QZ⟩
set_option maxRecDepth 100000 in
set_option maxHeartbeats 4000000 in
theorem lent_bas (w : World) (F : Nat → Prop) (x : BasM) (hx : CfgIn w F x.cfg) (hz : CfgSz x.cfg) :
    Calls Tryz.prog 67 #[.agg (basA x)] w fun e w' => ∃ y : BasM, e = .returned (.agg (basA y)) ∧ y.x = x.x ∧ CfgLent w' (Since w) y.cfg ∧ Nw w w' := by
  obtain ⟨X, hX⟩ : ∃ X, X = w.heap.size := ⟨_, rfl⟩
  obtain ⟨Y, hY⟩ : ∃ Y, Y = w.heap.size + 1 := ⟨_, rfl⟩
  obtain ⟨W0, hW0⟩ : ∃ W, W = w.alloc (.cells #[I64 x.index, I64 x.term, .slice x.cfg.v.a x.cfg.v.l.length x.cfg.v.c, .slice x.cfg.o.a x.cfg.o.l.length x.cfg.o.c, .slice x.cfg.l.a x.cfg.l.l.length x.cfg.l.c, .slice x.cfg.w.a x.cfg.w.l.length x.cfg.w.c] 47) := ⟨_, rfl⟩
  have p0 : Nw w W0 := by rw [hW0]; exact (Fr.refl (fun _ => False) _).alloc _
  have x0 : Blk W0 X 47 #[I64 x.index, I64 x.term, .slice x.cfg.v.a x.cfg.v.l.length x.cfg.v.c, .slice x.cfg.o.a x.cfg.o.l.length x.cfg.o.c, .slice x.cfg.l.a x.cfg.l.l.length x.cfg.l.c, .slice x.cfg.w.a x.cfg.w.l.length x.cfg.w.c] := by rw [hW0, hX]; exact Blk.new _ _ _
  have hz0 : W0.heap.size = Y := by rw [hW0, hY]; simp
  obtain ⟨W1, hW1⟩ : ∃ W, W = W0.alloc (.cells #[I64 0, I64 0, .slice none 0 0, .slice none 0 0, .slice none 0 0, .slice none 0 0] 47) := ⟨_, rfl⟩
  have p1 : Nw W0 W1 := by rw [hW1]; exact (Fr.refl (fun _ => False) _).alloc _
  have y1 : Blk W1 Y 47 #[I64 0, I64 0, .slice none 0 0, .slice none 0 0, .slice none 0 0, .slice none 0 0] := by rw [hW1, ← hz0]; exact Blk.new _ _ _
  have x1 := x0.fr p1 (fun h => h)
  have Q1 : Nw w W1 := p0.tr p1
  have hXw : w.heap.size ≤ X := by omega
  have hYw : w.heap.size ≤ Y := by omega
  have hXY : X ≠ Y := by omega
  have hXS : ∀ b, Since W1 b → ¬ b = X := fun b hb he => by have := x1.lt; unfold Since at hb; omega
  have hYS : ∀ b, Since W1 b → ¬ b = Y := fun b hb he => by have := y1.lt; unfold Since at hb; omega
  have hS1 : W1.heap.size ≤ W1.heap.size := Nat.le_refl _
  have hSw := Q1.size
  have HX := Lib.hid hX
  have HY := Lib.hid hY
  have HW0 := Lib.hid hW0
  have HW1 := Lib.hid hW1
  have HZ0 := Lib.hid hz0
  clear hX hY hW0 hW1 hz0 x0
  go_enter Tryz.func67, Tryz.ntmps67
  go_upto_region 1 with (fail)
  rw [← HY.out, ← HX.out, ← HW0.out, ← HW1.out]
  have l2 : ∀ p u, ([.slice x.cfg.v.a x.cfg.v.l.length x.cfg.v.c, .slice x.cfg.o.a x.cfg.o.l.length x.cfg.o.c, .slice x.cfg.l.a x.cfg.l.l.length x.cfg.l.c, .slice x.cfg.w.a x.cfg.w.l.length x.cfg.w.c] : List Value)[p]? = some u → W1.cell? ⟨X, 2 + p, none⟩ = some u := Blk.cells_in x1 2 4
  go_wp2_with (refine wl_load_cells rfl 45 _ rfl X 2 rfl [.slice x.cfg.v.a x.cfg.v.l.length x.cfg.v.c, .slice x.cfg.o.a x.cfg.o.l.length x.cfg.o.c, .slice x.cfg.l.a x.cfg.l.l.length x.cfg.l.c, .slice x.cfg.w.a x.cfg.w.l.length x.cfg.w.c] _ l2 Tryz.underlying45 rfl (by kernel_rfl) ?_)
  refine (lent_cfg _ F x.cfg (hx.nw Q1) hz).mono ?_
  rintro e v2 ⟨g2, rfl, e2, w2, q2⟩
  have Qv2 : Nw w v2 := Q1.tr q2
  have xv2 := x1.fr q2 (fun h => h)
  have yv2 := y1.fr q2 (fun h => h)
  have h2 := Blk.there (l := [I64 x.index, I64 x.term, .slice x.cfg.v.a x.cfg.v.l.length x.cfg.v.c, .slice x.cfg.o.a x.cfg.o.l.length x.cfg.o.c, .slice x.cfg.l.a x.cfg.l.l.length x.cfg.l.c, .slice x.cfg.w.a x.cfg.w.l.length x.cfg.w.c]) xv2 2 4 (by show 2 + 4 ≤ 6; omega)
  obtain ⟨W2, hW2⟩ : ∃ W, W = v2.setCells X 2 [.slice g2.v.a g2.v.l.length g2.v.c, .slice g2.o.a g2.o.l.length g2.o.c, .slice g2.l.a g2.l.l.length g2.l.c, .slice g2.w.a g2.w.l.length g2.w.c] := ⟨_, rfl⟩
  have x2 : Blk W2 X 47 #[I64 x.index, I64 x.term, .slice g2.v.a g2.v.l.length g2.v.c, .slice g2.o.a g2.o.l.length g2.o.c, .slice g2.l.a g2.l.l.length g2.l.c, .slice g2.w.a g2.w.l.length g2.w.c] := by rw [hW2]; exact Blk.setCells (l := [I64 x.index, I64 x.term, .slice x.cfg.v.a x.cfg.v.l.length x.cfg.v.c, .slice x.cfg.o.a x.cfg.o.l.length x.cfg.o.c, .slice x.cfg.l.a x.cfg.l.l.length x.cfg.l.c, .slice x.cfg.w.a x.cfg.w.l.length x.cfg.w.c]) xv2 2 [.slice g2.v.a g2.v.l.length g2.v.c, .slice g2.o.a g2.o.l.length g2.o.c, .slice g2.l.a g2.l.l.length g2.l.c, .slice g2.w.a g2.w.l.length g2.w.c]
  have m2 : Fr (· = X) v2 W2 := by rw [hW2]; exact (Fr.refl (· = X) _).setCells _ _
  have o2 : (#[.slice g2.v.a g2.v.l.length g2.v.c, .slice g2.o.a g2.o.l.length g2.o.c, .slice g2.l.a g2.l.l.length g2.l.c, .slice g2.w.a g2.w.l.length g2.w.c] : Array Value).all (·.oneCell') = true := by rw [List.all_toArray]; simp only [List.all_cons, List.all_nil]; rfl
  have y2 := yv2.fr m2 (fun h => hXY h.symm)
  have Q2 : Nw w W2 := Qv2.new m2 (fun b hb => by omega)
  have n2 := (w2.mono (F' := Since W1) (fun k hk _ => Nat.le_trans hS1 hk)).fr m2 hXS
  have hS2 : W1.heap.size ≤ W2.heap.size := Nat.le_trans (Nat.le_trans hS1 q2.size) m2.size
  have HW2 := Lib.hid hW2
  clear hW2 l2
  go_upto_region 2 with (refine wpList_store_mid rfl 45 _ _ rfl X 2 #[.slice g2.v.a g2.v.l.length g2.v.c, .slice g2.o.a g2.o.l.length g2.o.c, .slice g2.l.a g2.l.l.length g2.l.c, .slice g2.w.a g2.w.l.length g2.w.c] rfl rfl h2 (by kernel_rfl) o2 ?_)
  rw [← HW2.out]
  have lz : ∀ p u, ([I64 x.index, I64 x.term, .slice g2.v.a g2.v.l.length g2.v.c, .slice g2.o.a g2.o.l.length g2.o.c, .slice g2.l.a g2.l.l.length g2.l.c, .slice g2.w.a g2.w.l.length g2.w.c] : List Value)[p]? = some u → W2.cell? ⟨X, 0 + p, none⟩ = some u := Blk.cells_in x2 0 6
  have hz := Blk.there (l := [I64 0, I64 0, .slice none 0 0, .slice none 0 0, .slice none 0 0, .slice none 0 0]) y2 0 6 (by show 0 + 6 ≤ 6; omega)
  have oz : (#[I64 x.index, I64 x.term, .slice g2.v.a g2.v.l.length g2.v.c, .slice g2.o.a g2.o.l.length g2.o.c, .slice g2.l.a g2.l.l.length g2.l.c, .slice g2.w.a g2.w.l.length g2.w.c] : Array Value).all (·.oneCell') = true := by rw [List.all_toArray]; simp only [List.all_cons, List.all_nil]; rfl
  obtain ⟨WZ, hWZ⟩ : ∃ W, W = W2.setCells Y 0 [I64 x.index, I64 x.term, .slice g2.v.a g2.v.l.length g2.v.c, .slice g2.o.a g2.o.l.length g2.o.c, .slice g2.l.a g2.l.l.length g2.l.c, .slice g2.w.a g2.w.l.length g2.w.c] := ⟨_, rfl⟩
  have yz : Blk WZ Y 47 #[I64 x.index, I64 x.term, .slice g2.v.a g2.v.l.length g2.v.c, .slice g2.o.a g2.o.l.length g2.o.c, .slice g2.l.a g2.l.l.length g2.l.c, .slice g2.w.a g2.w.l.length g2.w.c] := by rw [hWZ]; exact Blk.setCells (l := [I64 0, I64 0, .slice none 0 0, .slice none 0 0, .slice none 0 0, .slice none 0 0]) y2 0 [I64 x.index, I64 x.term, .slice g2.v.a g2.v.l.length g2.v.c, .slice g2.o.a g2.o.l.length g2.o.c, .slice g2.l.a g2.l.l.length g2.l.c, .slice g2.w.a g2.w.l.length g2.w.c]
  have mz : Fr (· = Y) W2 WZ := by rw [hWZ]; exact (Fr.refl (· = Y) _).setCells _ _
  have QZ : Nw w WZ := Q2.new mz (fun b hb => by omega)
  have HWZ := Lib.hid hWZ
  clear hWZ
  have n2 := (n2.fr mz hYS).mono (F' := Since w) (fun k hk _ => Nat.le_trans hSw hk)
  go_wp2_with (first | (refine wl_load_cells rfl 47 _ rfl X 0 rfl [I64 x.index, I64 x.term, .slice g2.v.a g2.v.l.length g2.v.c, .slice g2.o.a g2.o.l.length g2.o.c, .slice g2.l.a g2.l.l.length g2.l.c, .slice g2.w.a g2.w.l.length g2.w.c] _ lz Tryz.underlying47 rfl (by kernel_rfl) ?_) | (refine wpList_store_mid rfl 47 _ _ rfl Y 0 #[I64 x.index, I64 x.term, .slice g2.v.a g2.v.l.length g2.v.c, .slice g2.o.a g2.o.l.length g2.o.c, .slice g2.l.a g2.l.l.length g2.l.c, .slice g2.w.a g2.w.l.length g2.w.c] rfl rfl hz (by kernel_rfl) oz ?_; rw [← HWZ.out]))
  refine bodyPost_ret (v := .agg #[I64 x.index, I64 x.term, .slice g2.v.a g2.v.l.length g2.v.c, .slice g2.o.a g2.o.l.length g2.o.c, .slice g2.l.a g2.l.l.length g2.l.c, .slice g2.w.a g2.w.l.length g2.w.c]) ?_ rfl ?_
  · exact results_cell_row rfl _ _ Y 47 _ (0, 0) _ rfl yz Tryz.underlying47 rfl (by kernel_rfl)
  exact ⟨⟨x.index, x.term, g2⟩, rfl, by show (⟨x.index, x.term, g2.x⟩ : Bas) = _; rw [e2], n2, QZ⟩
end Go.Proofs.YtippdjaakcgeoaaGreat
