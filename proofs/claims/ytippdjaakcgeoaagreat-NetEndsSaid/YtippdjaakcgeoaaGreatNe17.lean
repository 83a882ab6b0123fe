/- Lemmas of the walks: KpA, KpB, KpC. (Laid together by shake.py.) -/
import Derived.Test.YtippdjaakcgeoaaGreatNe04
import Derived.Test.YtippdjaakcgeoaaGreatNe14
import Derived.Test.YtippdjaakcgeoaaGreatNe16
set_option linter.unusedVariables false
set_option linter.unusedSimpArgs false
namespace Go.Proofs.YtippdjaakcgeoaaGreat
open Go Go.RowKit
set_option linter.unusedVariables false
set_option linter.unusedSimpArgs false
theorem EntSz.zero' {k i : Nat} : EntSz (mkEn k i) := ⟨by show 0 ≤ 1000000; omega, CfgSz.zero⟩
theorem LetSz.zero' {k i : Nat} : LetSz (mkLe k i) := ⟨by show 0 ≤ 1000000; omega, (by intro e he; cases he), CfgSz.zero, by show 0 ≤ 1000000; omega⟩
theorem EntIn.mark (w : World) (F : Nat → Prop) (k i : Nat) : EntIn w F (mkEn k i) := ⟨⟨by show (0 : Int) ≤ 0; omega, by show (0 : Int) ≤ 255; omega⟩, LsIn.nil w F bytesC rfl, CfgIn.zero w F⟩
theorem LetIn.mark (w : World) (F : Nat → Prop) (k i : Nat) : LetIn w F (mkLe k i) := ⟨⟨by show (0 : Int) ≤ 0; omega, by show (0 : Int) ≤ 255; omega⟩, LsIn.nil w F entsC rfl, (by intro e he; cases he), CfgIn.zero w F, LsIn.nil w F bytesC rfl⟩
def KeptIR (w : World) (n : Nat) (i : Value) (wr : World) : Prop := ∃ k : Nat, k ≤ n + 12 ∧ i = .int .i64 k ∧ Nw w wr
set_option maxRecDepth 100000 in
set_option maxHeartbeats 2000000 in
theorem kept_ints (w : World) (F1 F2 : Nat → Prop) (s : Ls Int) (hs : LsLent w F1 3 1 intsC behI s) (A2 : Option Addr) (c2 : Nat) (ys : List Int) (h2 : Sl w F2 A2 (intsC ys)) (he : s.l = ys) (hsz : s.l.length ≤ 1000000000) :
    Calls Tryz.prog 210 #[s.v, .slice A2 ys.length c2] w fun e w' => e = .returned (.bool true) ∧ Nw w w' := by
  obtain ⟨g, hg, hc, hcm, ho, hF⟩ := hs
  rw [← he] at h2 ⊢
  clear he
  obtain ⟨n, hn⟩ : ∃ n, s.l.length = n := ⟨_, rfl⟩
  have hsl := slice_h (P := Tryz.prog) 41 under_ints 1 size_ints (some ⟨g, 0, none⟩) n (n + 12) (n + 12) (Nat.le_refl _)
  have e12 : (((n + 12 : Nat)) : Int) = (n : Int) + 12 := by omega
  rw [e12] at hsl
  unfold Ls.v
  rw [hg, hc, hn]
  rw [hn] at ho hsz
  have HN := Lib.hid hn
  clear hg hc hn
  have hnn : ((n : Int) != (n : Int)) = false := by simp
  go_enter Tryz.func210, Tryz.ntmps210
  go_wp2_with fail
  go_loopw [6] (fun i wr => KeptIR w n i wr) (fun i _ => n + 12 - (intOf i).toNat)
  case atStart => exact ⟨0, by omega, rfl, Fr.refl _ _⟩
  case round =>
    obtain ⟨k, hk, rfl, hq⟩ := hrel
    by_cases hlt : k < n + 12
    · have hl12 : k < (s.l ++ behI).length := by rw [List.length_append, behI_len, HN.out]; exact hlt
      obtain ⟨b1, o1, hbo, _, p0⟩ := ((ho.fr hq (fun _ _ h => h)).sl).get hl12
      injection hbo with hbo
      injection hbo with e1 e2 _
      subst e1
      subst e2
      have hi0 : (k : Int) < (n : Int) + 12 := by omega
      by_cases hlt2 : k < n
      · have hkl : k < s.l.length := by rw [HN.out]; exact hlt2
        obtain ⟨b2, o2, rfl, _, r0⟩ := (h2.fr hq (fun _ _ h => h)).get hkl
        rw [List.getElem_append_left hkl] at p0
        obtain ⟨x, hx⟩ : ∃ x, s.l[k] = x := ⟨_, rfl⟩
        rw [hx] at p0 r0
        clear hx
        have hi1 : (k : Int) < (n : Int) := by omega
        have hi2 : decide ((n : Int) ≤ (k : Int)) = false := by simp; omega
        have hi3 : decide (n ≤ k) = false := by simp; omega
        have hi4 : decide ((k : Int) < (n : Int)) = true := decide_eq_true hi1
        have hi5 : decide (k < n) = true := decide_eq_true hlt2
        have heq : (x == x) = true := by simp
        have P0 := fun (m : Later wr) => m.cell p0
        have R0 := fun (m : Later wr) => m.cell r0
        simp only [Nat.zero_add] at P0
        clear p0 r0
        go_wp2_with fail
        refine wp_region_later (by kernel_rfl) (by kernel_rfl) ?_
        repeat (go_big_quiet_step (fail))
        refine wpQuiet_later fun w5 q5 => ?_
        go_wp2_with fail
        go_roundw
        case rel => exact ⟨k + 1, by omega, by go_num, hq.tr q5⟩
        case measure => simp [intOf]; omega
      · rw [List.getElem_append_right (by rw [HN.out]; omega)] at p0
        have hv : behI[k - s.l.length]'(by rw [behI_len, HN.out]; omega) = mkI 1 (k - n) := by simp [behI, HN.out]
        rw [hv] at p0
        clear hv
        have hi1 : decide ((k : Int) < (n : Int)) = false := by simp; omega
        have hi3 : decide (k < n) = false := by simp; omega
        have hi2 : (n : Int) ≤ (k : Int) := by omega
        have hi4 : decide ((n : Int) ≤ (k : Int)) = true := decide_eq_true hi2
        have hi5 : decide (n ≤ k) = true := decide_eq_true (by omega)
        obtain ⟨j, hj⟩ : ∃ j, j = k - n := ⟨_, rfl⟩
        rw [← hj] at p0
        have hju : ((j : Nat) : Int) = (k : Int) - (n : Int) := by omega
        have hmk : ∀ m : Later wr, _ := fun m => markI_any m.at_ 1 j (by omega) (by omega)
        rw [hju] at hmk
        obtain ⟨z, hz⟩ : ∃ z, mkI 1 j = z := ⟨_, rfl⟩
        rw [hz] at p0
        simp only [hz] at hmk
        have heq : (z == z) = true := by simp
        have P0 := fun (m : Later wr) => m.cell p0
        simp only [Nat.zero_add] at P0
        have HMK := Lib.hid hmk
        clear p0 hmk hju hj hz
        have hsub2 : IntKind.i64.wrap ((k : Int) - (n : Int)) = (k : Int) - (n : Int) := IntWalk.i64_in _ (by omega)
        go_wp2_with fail
        refine wp_region_later (by kernel_rfl) (by kernel_rfl) ?_
        repeat (go_big_quiet_step ((go_at_call 136; exact Later.same (HMK.out _))))
        refine wpQuiet_later fun w5 q5 => ?_
        go_wp2_with fail
        go_roundw
        case rel => exact ⟨k + 1, by omega, by go_num, hq.tr q5⟩
        case measure => simp [intOf]; omega
    · go_wp2_with fail
      go_ret
      exact ⟨rfl, hq⟩
theorem kept_by (w : World) (F1 F2 : Nat → Prop) (s : Ls UInt8) (hs : LsLent w F1 5 1 bytesC behind s) (A2 : Option Addr) (c2 : Nat) (ys : List UInt8) (h2 : Sl w F2 A2 (bytesC ys)) (he : s.l = ys) (hsz : s.l.length ≤ 1000000000) :
    Calls Tryz.prog 46 #[s.v, .slice A2 ys.length c2] w fun e w' => e = .returned (.bool true) ∧ Nw w w' := by
  obtain ⟨g, hg, hc, hcm, ho, hF⟩ := hs
  subst he
  have h := kept_u8 w F2 (some ⟨g, 0, none⟩) A2 c2 s.l ho h2 (by omega)
  unfold Ls.v
  rw [hg, hc]
  exact h.mono fun e w' h => ⟨h.1, h.2.fr _⟩
set_option maxRecDepth 100000 in
set_option maxHeartbeats 4000000 in
theorem kept_cfg (w : World) (F1 F2 : Nat → Prop) (x y : CfgM) (hx : CfgLent w F1 x) (hy : CfgIn w F2 y) (he : x.x = y.x) (hz : CfgSz x) :
    Calls Tryz.prog 161 #[.agg (cfgA x), .agg (cfgA y)] w fun e w' => e = .returned (.bool (true)) ∧ Nw w w' := by
  have h_v : x.v.l = y.v.l := congrArg Cfg.v he
  have h_o : x.o.l = y.o.l := congrArg Cfg.o he
  have h_l : x.l.l = y.l.l := congrArg Cfg.l he
  have h_w : x.w.l = y.w.l := congrArg Cfg.w he
  obtain ⟨W0, hW0⟩ : ∃ W, W = w.alloc (.cells #[.slice x.v.a x.v.l.length x.v.c, .slice x.o.a x.o.l.length x.o.c, .slice x.l.a x.l.l.length x.l.c, .slice x.w.a x.w.l.length x.w.c] 45) := ⟨_, rfl⟩
  have p0 : Nw w W0 := by rw [hW0]; exact (Fr.refl (fun _ => False) _).alloc _
  have b0 : Blk W0 w.heap.size 45 #[.slice x.v.a x.v.l.length x.v.c, .slice x.o.a x.o.l.length x.o.c, .slice x.l.a x.l.l.length x.l.c, .slice x.w.a x.w.l.length x.w.c] := by rw [hW0]; exact Blk.new _ _ _
  have hz1 : W0.heap.size = w.heap.size + 1 := by rw [hW0]; simp
  obtain ⟨W1, hW1⟩ : ∃ W, W = W0.alloc (.cells #[.slice y.v.a y.v.l.length y.v.c, .slice y.o.a y.o.l.length y.o.c, .slice y.l.a y.l.l.length y.l.c, .slice y.w.a y.w.l.length y.w.c] 45) := ⟨_, rfl⟩
  have p1 : Nw W0 W1 := by rw [hW1]; exact (Fr.refl (fun _ => False) _).alloc _
  have b1 : Blk W1 (w.heap.size + 1) 45 #[.slice y.v.a y.v.l.length y.v.c, .slice y.o.a y.o.l.length y.o.c, .slice y.l.a y.l.l.length y.l.c, .slice y.w.a y.w.l.length y.w.c] := by rw [hW1, ← hz1]; exact Blk.new _ _ _
  have Q0 : Nw w W1 := p0.tr p1
  have b0 := b0.fr p1 (fun h => h)
  have z1 : ∀ m : Later W1, Calls Tryz.prog 159 #[.agg #[.slice x.v.a x.v.l.length x.v.c, .slice x.o.a x.o.l.length x.o.c, .slice x.l.a x.l.l.length x.l.c, .slice x.w.a x.w.l.length x.w.c], .agg #[.slice y.v.a y.v.l.length y.v.c, .slice y.o.a y.o.l.length y.o.c, .slice y.l.a y.l.l.length y.l.c, .slice y.w.a y.w.l.length y.w.c]] m.at_ fun e w' => e = .returned (.bool (true)) ∧ Nw m.at_ w' := fun m => by
    have f := Q0.tr m.nw
    exact (same_cfg _ F1 F2 _ _ (hx.in_.nw f) (hy.nw f) hz).mono fun e w' h => ⟨by rw [decide_eq_true he] at h; exact h.1, h.2⟩
  have z2 : ∀ m : Later W1, Calls Tryz.prog 210 #[.slice x.v.a x.v.l.length x.v.c, .slice y.v.a y.v.l.length y.v.c] m.at_ fun e w' => e = .returned (.bool (true)) ∧ Nw m.at_ w' := fun m => by
    have f := Q0.tr m.nw
    exact kept_ints _ F1 F2 x.v (hx.v.nw f) _ _ _ ((hy.v.nw f).sl) h_v (by have := hz.v; omega)
  have z3 : ∀ m : Later W1, Calls Tryz.prog 210 #[.slice x.o.a x.o.l.length x.o.c, .slice y.o.a y.o.l.length y.o.c] m.at_ fun e w' => e = .returned (.bool (true)) ∧ Nw m.at_ w' := fun m => by
    have f := Q0.tr m.nw
    exact kept_ints _ F1 F2 x.o (hx.o.nw f) _ _ _ ((hy.o.nw f).sl) h_o (by have := hz.o; omega)
  have z4 : ∀ m : Later W1, Calls Tryz.prog 210 #[.slice x.l.a x.l.l.length x.l.c, .slice y.l.a y.l.l.length y.l.c] m.at_ fun e w' => e = .returned (.bool (true)) ∧ Nw m.at_ w' := fun m => by
    have f := Q0.tr m.nw
    exact kept_ints _ F1 F2 x.l (hx.l.nw f) _ _ _ ((hy.l.nw f).sl) h_l (by have := hz.l; omega)
  have z5 : ∀ m : Later W1, Calls Tryz.prog 210 #[.slice x.w.a x.w.l.length x.w.c, .slice y.w.a y.w.l.length y.w.c] m.at_ fun e w' => e = .returned (.bool (true)) ∧ Nw m.at_ w' := fun m => by
    have f := Q0.tr m.nw
    exact kept_ints _ F1 F2 x.w (hx.w.nw f) _ _ _ ((hy.w.nw f).sl) h_w (by have := hz.w; omega)
  have hS : ∀ w1, Nw W1 w1 → w1.cell? ⟨w.heap.size, 0, none⟩ = some (.slice x.v.a x.v.l.length x.v.c) ∧ w1.cell? ⟨w.heap.size, 1, none⟩ = some (.slice x.o.a x.o.l.length x.o.c) ∧ w1.cell? ⟨w.heap.size, 2, none⟩ = some (.slice x.l.a x.l.l.length x.l.c) ∧ w1.cell? ⟨w.heap.size, 3, none⟩ = some (.slice x.w.a x.w.l.length x.w.c) ∧ w1.cell? ⟨(w.heap.size + 1), 0, none⟩ = some (.slice y.v.a y.v.l.length y.v.c) ∧ w1.cell? ⟨(w.heap.size + 1), 1, none⟩ = some (.slice y.o.a y.o.l.length y.o.c) ∧ w1.cell? ⟨(w.heap.size + 1), 2, none⟩ = some (.slice y.l.a y.l.l.length y.l.c) ∧ w1.cell? ⟨(w.heap.size + 1), 3, none⟩ = some (.slice y.w.a y.w.l.length y.w.c) := fun w1 f => by
    have a0 := b0.fr f (fun h => h)
    have a1 := b1.fr f (fun h => h)
    exact ⟨by simpa using a0.cell 0, by simpa using a0.cell 1, by simpa using a0.cell 2, by simpa using a0.cell 3, by simpa using a1.cell 0, by simpa using a1.cell 1, by simpa using a1.cell 2, by simpa using a1.cell 3⟩
  have HW0 := Lib.hid hW0
  have HW1 := Lib.hid hW1
  clear hW0 b0 hW1 b1 
  clear h_v h_o h_l h_w he
  go_enter Tryz.func161, Tryz.ntmps161
  go_upto_region 1 with (fail)
  rw [← HW0.out, ← HW1.out]
  obtain ⟨k0_0_0, k0_0_1, k0_0_2, k0_0_3, k0_1_0, k0_1_1, k0_1_2, k0_1_3⟩ := hS W1 (Fr.refl _ _)
  go_wp2_with fail
  refine (z1 ⟨_, (Fr.refl (fun _ => False) W1)⟩).mono ?_
  rintro e v1 ⟨rfl, r1⟩
  have Q1 : Nw W1 v1 := (Fr.refl (fun _ => False) W1).tr r1
  obtain ⟨k1_0_0, _, _, _, k1_1_0, _, _, _⟩ := hS v1 Q1
  go_wp2_with fail
  refine (z2 ⟨_, Q1⟩).mono ?_
  rintro e v2 ⟨rfl, r2⟩
  have Q2 : Nw W1 v2 := Q1.tr r2
  obtain ⟨_, k2_0_1, _, _, _, k2_1_1, _, _⟩ := hS v2 Q2
  go_wp2_with fail
  refine (z3 ⟨_, Q2⟩).mono ?_
  rintro e v3 ⟨rfl, r3⟩
  have Q3 : Nw W1 v3 := Q2.tr r3
  obtain ⟨_, _, k3_0_2, _, _, _, k3_1_2, _⟩ := hS v3 Q3
  go_wp2_with fail
  refine (z4 ⟨_, Q3⟩).mono ?_
  rintro e v4 ⟨rfl, r4⟩
  have Q4 : Nw W1 v4 := Q3.tr r4
  obtain ⟨_, _, _, k4_0_3, _, _, _, k4_1_3⟩ := hS v4 Q4
  go_wp2_with fail
  refine (z5 ⟨_, Q4⟩).mono ?_
  rintro e v5 ⟨rfl, r5⟩
  have Q5 : Nw W1 v5 := Q4.tr r5
  go_wp2_with fail
  go_ret
  exact ⟨rfl, Q0.tr Q5⟩
set_option maxRecDepth 100000 in
set_option maxHeartbeats 4000000 in
theorem kept_ent (w : World) (F1 F2 : Nat → Prop) (x y : EntM) (hx : EntLent w F1 x) (hy : EntIn w F2 y) (he : x.x = y.x) (hz : EntSz x) :
    Calls Tryz.prog 160 #[.agg (entA x), .agg (entA y)] w fun e w' => e = .returned (.bool (true)) ∧ Nw w w' := by
  have h_b : x.cmd.l = y.cmd.l := congrArg Ent.cmd he
  have h_c : x.cfg.x = y.cfg.x := congrArg Ent.cfg he
  obtain ⟨W0, hW0⟩ : ∃ W, W = w.alloc (.cells #[I64 x.term, U8V x.kind, .slice x.cmd.a x.cmd.l.length x.cmd.c, .slice x.cfg.v.a x.cfg.v.l.length x.cfg.v.c, .slice x.cfg.o.a x.cfg.o.l.length x.cfg.o.c, .slice x.cfg.l.a x.cfg.l.l.length x.cfg.l.c, .slice x.cfg.w.a x.cfg.w.l.length x.cfg.w.c] 87) := ⟨_, rfl⟩
  have p0 : Nw w W0 := by rw [hW0]; exact (Fr.refl (fun _ => False) _).alloc _
  have b0 : Blk W0 w.heap.size 87 #[I64 x.term, U8V x.kind, .slice x.cmd.a x.cmd.l.length x.cmd.c, .slice x.cfg.v.a x.cfg.v.l.length x.cfg.v.c, .slice x.cfg.o.a x.cfg.o.l.length x.cfg.o.c, .slice x.cfg.l.a x.cfg.l.l.length x.cfg.l.c, .slice x.cfg.w.a x.cfg.w.l.length x.cfg.w.c] := by rw [hW0]; exact Blk.new _ _ _
  have hz1 : W0.heap.size = w.heap.size + 1 := by rw [hW0]; simp
  obtain ⟨W1, hW1⟩ : ∃ W, W = W0.alloc (.cells #[I64 y.term, U8V y.kind, .slice y.cmd.a y.cmd.l.length y.cmd.c, .slice y.cfg.v.a y.cfg.v.l.length y.cfg.v.c, .slice y.cfg.o.a y.cfg.o.l.length y.cfg.o.c, .slice y.cfg.l.a y.cfg.l.l.length y.cfg.l.c, .slice y.cfg.w.a y.cfg.w.l.length y.cfg.w.c] 87) := ⟨_, rfl⟩
  have p1 : Nw W0 W1 := by rw [hW1]; exact (Fr.refl (fun _ => False) _).alloc _
  have b1 : Blk W1 (w.heap.size + 1) 87 #[I64 y.term, U8V y.kind, .slice y.cmd.a y.cmd.l.length y.cmd.c, .slice y.cfg.v.a y.cfg.v.l.length y.cfg.v.c, .slice y.cfg.o.a y.cfg.o.l.length y.cfg.o.c, .slice y.cfg.l.a y.cfg.l.l.length y.cfg.l.c, .slice y.cfg.w.a y.cfg.w.l.length y.cfg.w.c] := by rw [hW1, ← hz1]; exact Blk.new _ _ _
  have Q0 : Nw w W1 := p0.tr p1
  have b0 := b0.fr p1 (fun h => h)
  have z1 : ∀ m : Later W1, Calls Tryz.prog 158 #[.agg #[I64 x.term, U8V x.kind, .slice x.cmd.a x.cmd.l.length x.cmd.c, .slice x.cfg.v.a x.cfg.v.l.length x.cfg.v.c, .slice x.cfg.o.a x.cfg.o.l.length x.cfg.o.c, .slice x.cfg.l.a x.cfg.l.l.length x.cfg.l.c, .slice x.cfg.w.a x.cfg.w.l.length x.cfg.w.c], .agg #[I64 y.term, U8V y.kind, .slice y.cmd.a y.cmd.l.length y.cmd.c, .slice y.cfg.v.a y.cfg.v.l.length y.cfg.v.c, .slice y.cfg.o.a y.cfg.o.l.length y.cfg.o.c, .slice y.cfg.l.a y.cfg.l.l.length y.cfg.l.c, .slice y.cfg.w.a y.cfg.w.l.length y.cfg.w.c]] m.at_ fun e w' => e = .returned (.bool (true)) ∧ Nw m.at_ w' := fun m => by
    have f := Q0.tr m.nw
    exact (same_ent _ F1 F2 _ _ (hx.in_.nw f) (hy.nw f) hz).mono fun e w' h => ⟨by rw [decide_eq_true he] at h; exact h.1, h.2⟩
  have z2 : ∀ m : Later W1, Calls Tryz.prog 46 #[.slice x.cmd.a x.cmd.l.length x.cmd.c, .slice y.cmd.a y.cmd.l.length y.cmd.c] m.at_ fun e w' => e = .returned (.bool (true)) ∧ Nw m.at_ w' := fun m => by
    have f := Q0.tr m.nw
    exact kept_by _ F1 F2 x.cmd (hx.cmd.nw f) _ _ _ ((hy.cmd.nw f).sl) h_b (by have := hz.cmd; omega)
  have z3 : ∀ m : Later W1, Calls Tryz.prog 161 #[.agg #[.slice x.cfg.v.a x.cfg.v.l.length x.cfg.v.c, .slice x.cfg.o.a x.cfg.o.l.length x.cfg.o.c, .slice x.cfg.l.a x.cfg.l.l.length x.cfg.l.c, .slice x.cfg.w.a x.cfg.w.l.length x.cfg.w.c], .agg #[.slice y.cfg.v.a y.cfg.v.l.length y.cfg.v.c, .slice y.cfg.o.a y.cfg.o.l.length y.cfg.o.c, .slice y.cfg.l.a y.cfg.l.l.length y.cfg.l.c, .slice y.cfg.w.a y.cfg.w.l.length y.cfg.w.c]] m.at_ fun e w' => e = .returned (.bool (true)) ∧ Nw m.at_ w' := fun m => by
    have f := Q0.tr m.nw
    exact kept_cfg _ F1 F2 _ _ (hx.cfg.nw f) (hy.cfg.nw f) h_c hz.cfg
  have hS : ∀ w1, Nw W1 w1 → w1.cell? ⟨w.heap.size, 0, none⟩ = some (I64 x.term) ∧ w1.cell? ⟨w.heap.size, 1, none⟩ = some (U8V x.kind) ∧ w1.cell? ⟨w.heap.size, 2, none⟩ = some (.slice x.cmd.a x.cmd.l.length x.cmd.c) ∧ w1.cell? ⟨w.heap.size, 3, none⟩ = some (.slice x.cfg.v.a x.cfg.v.l.length x.cfg.v.c) ∧ w1.cell? ⟨w.heap.size, 4, none⟩ = some (.slice x.cfg.o.a x.cfg.o.l.length x.cfg.o.c) ∧ w1.cell? ⟨w.heap.size, 5, none⟩ = some (.slice x.cfg.l.a x.cfg.l.l.length x.cfg.l.c) ∧ w1.cell? ⟨w.heap.size, 6, none⟩ = some (.slice x.cfg.w.a x.cfg.w.l.length x.cfg.w.c) ∧ w1.cell? ⟨(w.heap.size + 1), 0, none⟩ = some (I64 y.term) ∧ w1.cell? ⟨(w.heap.size + 1), 1, none⟩ = some (U8V y.kind) ∧ w1.cell? ⟨(w.heap.size + 1), 2, none⟩ = some (.slice y.cmd.a y.cmd.l.length y.cmd.c) ∧ w1.cell? ⟨(w.heap.size + 1), 3, none⟩ = some (.slice y.cfg.v.a y.cfg.v.l.length y.cfg.v.c) ∧ w1.cell? ⟨(w.heap.size + 1), 4, none⟩ = some (.slice y.cfg.o.a y.cfg.o.l.length y.cfg.o.c) ∧ w1.cell? ⟨(w.heap.size + 1), 5, none⟩ = some (.slice y.cfg.l.a y.cfg.l.l.length y.cfg.l.c) ∧ w1.cell? ⟨(w.heap.size + 1), 6, none⟩ = some (.slice y.cfg.w.a y.cfg.w.l.length y.cfg.w.c) := fun w1 f => by
    have a0 := b0.fr f (fun h => h)
    have a1 := b1.fr f (fun h => h)
    exact ⟨by simpa using a0.cell 0, by simpa using a0.cell 1, by simpa using a0.cell 2, by simpa using a0.cell 3, by simpa using a0.cell 4, by simpa using a0.cell 5, by simpa using a0.cell 6, by simpa using a1.cell 0, by simpa using a1.cell 1, by simpa using a1.cell 2, by simpa using a1.cell 3, by simpa using a1.cell 4, by simpa using a1.cell 5, by simpa using a1.cell 6⟩
  have HW0 := Lib.hid hW0
  have HW1 := Lib.hid hW1
  clear hW0 b0 hW1 b1 
  clear h_b h_c he
  go_enter Tryz.func160, Tryz.ntmps160
  go_upto_region 1 with (fail)
  rw [← HW0.out, ← HW1.out]
  obtain ⟨k0_0_0, k0_0_1, k0_0_2, k0_0_3, k0_0_4, k0_0_5, k0_0_6, k0_1_0, k0_1_1, k0_1_2, k0_1_3, k0_1_4, k0_1_5, k0_1_6⟩ := hS W1 (Fr.refl _ _)
  go_wp2_with fail
  refine (z1 ⟨_, (Fr.refl (fun _ => False) W1)⟩).mono ?_
  rintro e v1 ⟨rfl, r1⟩
  have Q1 : Nw W1 v1 := (Fr.refl (fun _ => False) W1).tr r1
  obtain ⟨_, _, k1_0_2, _, _, _, _, _, _, k1_1_2, _, _, _, _⟩ := hS v1 Q1
  go_wp2_with fail
  refine (z2 ⟨_, Q1⟩).mono ?_
  rintro e v2 ⟨rfl, r2⟩
  have Q2 : Nw W1 v2 := Q1.tr r2
  obtain ⟨_, _, _, k2_0_3, k2_0_4, k2_0_5, k2_0_6, _, _, _, k2_1_3, k2_1_4, k2_1_5, k2_1_6⟩ := hS v2 Q2
  go_wp2_with fail
  refine (z3 ⟨_, Q2⟩).mono ?_
  rintro e v3 ⟨rfl, r3⟩
  have Q3 : Nw W1 v3 := Q2.tr r3
  go_wp2_with fail
  go_ret
  exact ⟨rfl, Q0.tr Q3⟩
set_option maxRecDepth 100000 in
set_option maxHeartbeats 4000000 in
theorem kept_bas (w : World) (F1 F2 : Nat → Prop) (x y : BasM) (hx : CfgLent w F1 x.cfg) (hy : CfgIn w F2 y.cfg) (he : x.x = y.x) (hz : CfgSz x.cfg) :
    Calls Tryz.prog 91 #[.agg (basA x), .agg (basA y)] w fun e w' => e = .returned (.bool (true)) ∧ Nw w w' := by
  have h_c : x.cfg.x = y.cfg.x := congrArg Bas.cfg he
  obtain ⟨W0, hW0⟩ : ∃ W, W = w.alloc (.cells #[I64 x.index, I64 x.term, .slice x.cfg.v.a x.cfg.v.l.length x.cfg.v.c, .slice x.cfg.o.a x.cfg.o.l.length x.cfg.o.c, .slice x.cfg.l.a x.cfg.l.l.length x.cfg.l.c, .slice x.cfg.w.a x.cfg.w.l.length x.cfg.w.c] 47) := ⟨_, rfl⟩
  have p0 : Nw w W0 := by rw [hW0]; exact (Fr.refl (fun _ => False) _).alloc _
  have b0 : Blk W0 w.heap.size 47 #[I64 x.index, I64 x.term, .slice x.cfg.v.a x.cfg.v.l.length x.cfg.v.c, .slice x.cfg.o.a x.cfg.o.l.length x.cfg.o.c, .slice x.cfg.l.a x.cfg.l.l.length x.cfg.l.c, .slice x.cfg.w.a x.cfg.w.l.length x.cfg.w.c] := by rw [hW0]; exact Blk.new _ _ _
  have hz1 : W0.heap.size = w.heap.size + 1 := by rw [hW0]; simp
  obtain ⟨W1, hW1⟩ : ∃ W, W = W0.alloc (.cells #[I64 y.index, I64 y.term, .slice y.cfg.v.a y.cfg.v.l.length y.cfg.v.c, .slice y.cfg.o.a y.cfg.o.l.length y.cfg.o.c, .slice y.cfg.l.a y.cfg.l.l.length y.cfg.l.c, .slice y.cfg.w.a y.cfg.w.l.length y.cfg.w.c] 47) := ⟨_, rfl⟩
  have p1 : Nw W0 W1 := by rw [hW1]; exact (Fr.refl (fun _ => False) _).alloc _
  have b1 : Blk W1 (w.heap.size + 1) 47 #[I64 y.index, I64 y.term, .slice y.cfg.v.a y.cfg.v.l.length y.cfg.v.c, .slice y.cfg.o.a y.cfg.o.l.length y.cfg.o.c, .slice y.cfg.l.a y.cfg.l.l.length y.cfg.l.c, .slice y.cfg.w.a y.cfg.w.l.length y.cfg.w.c] := by rw [hW1, ← hz1]; exact Blk.new _ _ _
  have Q0 : Nw w W1 := p0.tr p1
  have b0 := b0.fr p1 (fun h => h)
  have z1 : ∀ m : Later W1, Calls Tryz.prog 89 #[.agg #[I64 x.index, I64 x.term, .slice x.cfg.v.a x.cfg.v.l.length x.cfg.v.c, .slice x.cfg.o.a x.cfg.o.l.length x.cfg.o.c, .slice x.cfg.l.a x.cfg.l.l.length x.cfg.l.c, .slice x.cfg.w.a x.cfg.w.l.length x.cfg.w.c], .agg #[I64 y.index, I64 y.term, .slice y.cfg.v.a y.cfg.v.l.length y.cfg.v.c, .slice y.cfg.o.a y.cfg.o.l.length y.cfg.o.c, .slice y.cfg.l.a y.cfg.l.l.length y.cfg.l.c, .slice y.cfg.w.a y.cfg.w.l.length y.cfg.w.c]] m.at_ fun e w' => e = .returned (.bool (true)) ∧ Nw m.at_ w' := fun m => by
    have f := Q0.tr m.nw
    exact (same_bas _ F1 F2 _ _ (hx.in_.nw f) (hy.nw f) hz).mono fun e w' h => ⟨by rw [decide_eq_true he] at h; exact h.1, h.2⟩
  have z2 : ∀ m : Later W1, Calls Tryz.prog 161 #[.agg #[.slice x.cfg.v.a x.cfg.v.l.length x.cfg.v.c, .slice x.cfg.o.a x.cfg.o.l.length x.cfg.o.c, .slice x.cfg.l.a x.cfg.l.l.length x.cfg.l.c, .slice x.cfg.w.a x.cfg.w.l.length x.cfg.w.c], .agg #[.slice y.cfg.v.a y.cfg.v.l.length y.cfg.v.c, .slice y.cfg.o.a y.cfg.o.l.length y.cfg.o.c, .slice y.cfg.l.a y.cfg.l.l.length y.cfg.l.c, .slice y.cfg.w.a y.cfg.w.l.length y.cfg.w.c]] m.at_ fun e w' => e = .returned (.bool (true)) ∧ Nw m.at_ w' := fun m => by
    have f := Q0.tr m.nw
    exact kept_cfg _ F1 F2 _ _ (hx.nw f) (hy.nw f) h_c hz
  have hS : ∀ w1, Nw W1 w1 → w1.cell? ⟨w.heap.size, 0, none⟩ = some (I64 x.index) ∧ w1.cell? ⟨w.heap.size, 1, none⟩ = some (I64 x.term) ∧ w1.cell? ⟨w.heap.size, 2, none⟩ = some (.slice x.cfg.v.a x.cfg.v.l.length x.cfg.v.c) ∧ w1.cell? ⟨w.heap.size, 3, none⟩ = some (.slice x.cfg.o.a x.cfg.o.l.length x.cfg.o.c) ∧ w1.cell? ⟨w.heap.size, 4, none⟩ = some (.slice x.cfg.l.a x.cfg.l.l.length x.cfg.l.c) ∧ w1.cell? ⟨w.heap.size, 5, none⟩ = some (.slice x.cfg.w.a x.cfg.w.l.length x.cfg.w.c) ∧ w1.cell? ⟨(w.heap.size + 1), 0, none⟩ = some (I64 y.index) ∧ w1.cell? ⟨(w.heap.size + 1), 1, none⟩ = some (I64 y.term) ∧ w1.cell? ⟨(w.heap.size + 1), 2, none⟩ = some (.slice y.cfg.v.a y.cfg.v.l.length y.cfg.v.c) ∧ w1.cell? ⟨(w.heap.size + 1), 3, none⟩ = some (.slice y.cfg.o.a y.cfg.o.l.length y.cfg.o.c) ∧ w1.cell? ⟨(w.heap.size + 1), 4, none⟩ = some (.slice y.cfg.l.a y.cfg.l.l.length y.cfg.l.c) ∧ w1.cell? ⟨(w.heap.size + 1), 5, none⟩ = some (.slice y.cfg.w.a y.cfg.w.l.length y.cfg.w.c) := fun w1 f => by
    have a0 := b0.fr f (fun h => h)
    have a1 := b1.fr f (fun h => h)
    exact ⟨by simpa using a0.cell 0, by simpa using a0.cell 1, by simpa using a0.cell 2, by simpa using a0.cell 3, by simpa using a0.cell 4, by simpa using a0.cell 5, by simpa using a1.cell 0, by simpa using a1.cell 1, by simpa using a1.cell 2, by simpa using a1.cell 3, by simpa using a1.cell 4, by simpa using a1.cell 5⟩
  have HW0 := Lib.hid hW0
  have HW1 := Lib.hid hW1
  clear hW0 b0 hW1 b1 
  clear h_c he
  go_enter Tryz.func91, Tryz.ntmps91
  go_upto_region 1 with (fail)
  rw [← HW0.out, ← HW1.out]
  obtain ⟨k0_0_0, k0_0_1, k0_0_2, k0_0_3, k0_0_4, k0_0_5, k0_1_0, k0_1_1, k0_1_2, k0_1_3, k0_1_4, k0_1_5⟩ := hS W1 (Fr.refl _ _)
  go_wp2_with fail
  refine (z1 ⟨_, (Fr.refl (fun _ => False) W1)⟩).mono ?_
  rintro e v1 ⟨rfl, r1⟩
  have Q1 : Nw W1 v1 := (Fr.refl (fun _ => False) W1).tr r1
  obtain ⟨_, _, k1_0_2, k1_0_3, k1_0_4, k1_0_5, _, _, k1_1_2, k1_1_3, k1_1_4, k1_1_5⟩ := hS v1 Q1
  go_wp2_with fail
  refine (z2 ⟨_, Q1⟩).mono ?_
  rintro e v2 ⟨rfl, r2⟩
  have Q2 : Nw W1 v2 := Q1.tr r2
  go_wp2_with fail
  go_ret
  exact ⟨rfl, Q0.tr Q2⟩
end Go.Proofs.YtippdjaakcgeoaaGreat

namespace Go.Proofs.YtippdjaakcgeoaaGreat
open Go Go.RowKit
set_option linter.unusedVariables false
set_option linter.unusedSimpArgs false
def kept_entsR (w : World) (n : Nat) (i : Value) (wr : World) : Prop := ∃ k : Nat, k ≤ n + 12 ∧ i = .int .i64 k ∧ Nw w wr
set_option maxRecDepth 100000 in
set_option maxHeartbeats 8000000 in
theorem kept_ents (w : World) (F1 F2 : Nat → Prop) (s : Ls EntM) (hs : EntsLent w F1 s) (A2 : Option Addr) (c2 : Nat) (ys : List EntM) (h2 : Sl w F2 A2 (entsC ys)) (e2 : ∀ e ∈ ys, EntIn w F2 e) (he : s.l.map EntM.x = ys.map EntM.x) (hz : ∀ e ∈ s.l, EntSz e) (hsz : s.l.length ≤ 100000000) :
    Calls Tryz.prog 90 #[s.v, .slice A2 ys.length c2] w fun e w' => e = .returned (.bool true) ∧ Nw w w' := by
  obtain ⟨⟨g, hg, hc, hcm, ho, hF⟩, hev⟩ := hs
  have hyl : ys.length = s.l.length := by have := congrArg List.length he; simpa using this.symm
  obtain ⟨n, hn⟩ : ∃ n, s.l.length = n := ⟨_, rfl⟩
  have hsl := slice_h (P := Tryz.prog) 43 under_ents 7 size_ents (some ⟨g, 0, none⟩) n (n + 12) (n + 12) (Nat.le_refl _)
  have e12 : (((n + 12 : Nat)) : Int) = (n : Int) + 12 := by omega
  rw [e12] at hsl
  unfold Ls.v
  rw [hg, hc, hyl, hn]
  rw [hn] at ho
  have HN := Lib.hid hn
  have HYL := Lib.hid hyl
  have HE := Lib.hid he
  have HEV := Lib.hid hev
  have E2 := Lib.hid e2
  have HZ := Lib.hid hz
  clear hg hc hn hyl he hev e2 hz
  rw [HN.out] at hsz
  have hnn : ((n : Int) != (n : Int)) = false := by simp
  go_enter Tryz.func90, Tryz.ntmps90
  go_wp2_with fail
  go_loopw [6] (fun i wr => kept_entsR w n i wr) (fun i _ => n + 12 - (intOf i).toNat)
  case atStart => exact ⟨0, by omega, rfl, Fr.refl _ _⟩
  case round =>
    obtain ⟨k, hk, rfl, hq⟩ := hrel
    by_cases hlt : k < n + 12
    · have hl12 : k < (s.l ++ behE).length := by rw [List.length_append, behE_len, HN.out]; exact hlt
      obtain ⟨b1, o1, hbo, _, _, hc1⟩ := ((ho.fr hq (fun _ _ h => h)).sl).ent hl12
      injection hbo with hbo
      injection hbo with e1 e2 _
      subst e1
      subst e2
      simp only [Nat.zero_add] at hc1
      have hi0 : (k : Int) < (n : Int) + 12 := by omega
      by_cases hlt2 : k < n
      · have hkl : k < s.l.length := by rw [HN.out]; exact hlt2
        have hky : k < ys.length := by rw [HYL.out]; exact hkl
        obtain ⟨b2, o2, rfl, _, _, hc2⟩ := (h2.fr hq (fun _ _ h => h)).ent hky
        rw [List.getElem_append_left hkl] at hc1
        have hxy : (s.l[k]).x = (ys[k]).x := by
          have h3 := congrArg (fun l => l[k]?) HE.out
          simp only [List.getElem?_map, List.getElem?_eq_getElem hkl, List.getElem?_eq_getElem hky, Option.map_some] at h3
          injection h3
        have x1 := (HEV.out _ (List.getElem_mem hkl)).nw hq
        have x2 := (E2.out _ (List.getElem_mem hky)).nw hq
        have z1 := HZ.out _ (List.getElem_mem hkl)
        obtain ⟨x, hx⟩ : ∃ x, s.l[k] = x := ⟨_, rfl⟩
        obtain ⟨y, hy⟩ : ∃ y, ys[k] = y := ⟨_, rfl⟩
        rw [hx] at hc1 x1 z1 hxy
        rw [hy] at hc2 x2 hxy
        have hkp : ∀ m : Later wr, Calls Tryz.prog 160 #[.agg #[I64 x.term, U8V x.kind, .slice x.cmd.a x.cmd.l.length x.cmd.c, .slice x.cfg.v.a x.cfg.v.l.length x.cfg.v.c, .slice x.cfg.o.a x.cfg.o.l.length x.cfg.o.c, .slice x.cfg.l.a x.cfg.l.l.length x.cfg.l.c, .slice x.cfg.w.a x.cfg.w.l.length x.cfg.w.c], .agg #[I64 y.term, U8V y.kind, .slice y.cmd.a y.cmd.l.length y.cmd.c, .slice y.cfg.v.a y.cfg.v.l.length y.cfg.v.c, .slice y.cfg.o.a y.cfg.o.l.length y.cfg.o.c, .slice y.cfg.l.a y.cfg.l.l.length y.cfg.l.c, .slice y.cfg.w.a y.cfg.w.l.length y.cfg.w.c]] m.at_ fun e w' => e = .returned (.bool true) ∧ Nw m.at_ w' := fun m => kept_ent _ F1 F2 x y (x1.nw m.nw) (x2.nw m.nw) hxy z1
        have HK := Lib.hid hkp
        have L1 := Lib.hid (Later.cells hc1)
        have L2 := Lib.hid (Later.cells hc2)
        clear hx hy hc1 hc2 hxy x1 x2 z1 hkp
        have hi1 : (k : Int) < (n : Int) := by omega
        have hi2 : decide ((n : Int) ≤ (k : Int)) = false := by simp; omega
        have hi3 : decide (n ≤ k) = false := by simp; omega
        have hi4 : decide ((k : Int) < (n : Int)) = true := decide_eq_true hi1
        have hi5 : decide (k < n) = true := decide_eq_true hlt2
        go_wp2_with fail
        refine wp_region_later (by kernel_rfl) (by kernel_rfl) ?_
        iterate 8 (go_big_quiet_step (fail))
        refine quiet_load_cells (by kernel_rfl) 87 _ rfl _ (k * 7) rfl _ _ L1.out Tryz.underlying87 rfl (by kernel_rfl) ?_
        simp only [Act.put, List.setIfInBounds_toArray, List.set_cons_succ, List.set_cons_zero]
        iterate 3 (go_big_quiet_step (fail))
        refine quiet_load_cells (by kernel_rfl) 87 _ rfl b2 (o2 + k * 7) rfl _ _ L2.out Tryz.underlying87 rfl (by kernel_rfl) ?_
        simp only [Act.put, List.setIfInBounds_toArray, List.set_cons_succ, List.set_cons_zero]
        repeat (go_big_quiet_step ((go_at_call 160; exact Later.call (HK.out _))))
        refine wpQuiet_later fun w5 q5 => ?_
        go_wp2_with fail
        go_roundw
        case rel => exact ⟨k + 1, by omega, by go_num, hq.tr q5⟩
        case measure => simp [intOf]; omega
      · rw [List.getElem_append_right (by rw [HN.out]; omega)] at hc1
        have hv : behE[k - s.l.length]'(by rw [behE_len, HN.out]; omega) = mkEn 1 (k - n) := by simp [behE, HN.out]
        rw [hv] at hc1
        clear hv
        have hi1 : decide ((k : Int) < (n : Int)) = false := by simp; omega
        have hi3 : decide (k < n) = false := by simp; omega
        have hi2 : (n : Int) ≤ (k : Int) := by omega
        have hi4 : decide ((n : Int) ≤ (k : Int)) = true := decide_eq_true hi2
        have hi5 : decide (n ≤ k) = true := decide_eq_true (by omega)
        obtain ⟨j, hj⟩ : ∃ j, j = k - n := ⟨_, rfl⟩
        rw [← hj] at hc1
        have hju : ((j : Nat) : Int) = (k : Int) - (n : Int) := by omega
        have hmk : ∀ m : Later wr, _ := fun m => markEntry_any m.at_ 1 j (by omega) (by omega)
        rw [hju] at hmk
        have hsm : ∀ m : Later wr, Calls Tryz.prog 158 #[.agg #[I64 (mkEn 1 j).term, U8V (mkEn 1 j).kind, .slice (mkEn 1 j).cmd.a (mkEn 1 j).cmd.l.length (mkEn 1 j).cmd.c, .slice (mkEn 1 j).cfg.v.a (mkEn 1 j).cfg.v.l.length (mkEn 1 j).cfg.v.c, .slice (mkEn 1 j).cfg.o.a (mkEn 1 j).cfg.o.l.length (mkEn 1 j).cfg.o.c, .slice (mkEn 1 j).cfg.l.a (mkEn 1 j).cfg.l.l.length (mkEn 1 j).cfg.l.c, .slice (mkEn 1 j).cfg.w.a (mkEn 1 j).cfg.w.l.length (mkEn 1 j).cfg.w.c], .agg #[I64 (mkEn 1 j).term, U8V (mkEn 1 j).kind, .slice (mkEn 1 j).cmd.a (mkEn 1 j).cmd.l.length (mkEn 1 j).cmd.c, .slice (mkEn 1 j).cfg.v.a (mkEn 1 j).cfg.v.l.length (mkEn 1 j).cfg.v.c, .slice (mkEn 1 j).cfg.o.a (mkEn 1 j).cfg.o.l.length (mkEn 1 j).cfg.o.c, .slice (mkEn 1 j).cfg.l.a (mkEn 1 j).cfg.l.l.length (mkEn 1 j).cfg.l.c, .slice (mkEn 1 j).cfg.w.a (mkEn 1 j).cfg.w.l.length (mkEn 1 j).cfg.w.c]] m.at_ fun e w' => e = .returned (.bool true) ∧ Nw m.at_ w' := fun m =>
          (same_ent m.at_ (fun _ => False) (fun _ => False) (mkEn 1 j) (mkEn 1 j) (EntIn.mark _ _ _ _) (EntIn.mark _ _ _ _) EntSz.zero').mono fun e w' h => ⟨by simpa using h.1, h.2⟩
        have HMK := Lib.hid hmk
        have HSM := Lib.hid hsm
        have L1 := Lib.hid (Later.cells hc1)
        clear hc1 hmk hsm hju hj
        have hsub2 : IntKind.i64.wrap ((k : Int) - (n : Int)) = (k : Int) - (n : Int) := IntWalk.i64_in _ (by omega)
        go_wp2_with fail
        refine wp_region_later (by kernel_rfl) (by kernel_rfl) ?_
        iterate 25 (go_big_quiet_step (fail))
        refine quiet_load_cells (by kernel_rfl) 87 _ rfl _ (k * 7) rfl _ _ L1.out Tryz.underlying87 rfl (by kernel_rfl) ?_
        simp only [Act.put, List.setIfInBounds_toArray, List.set_cons_succ, List.set_cons_zero]
        repeat (go_big_quiet_step ((first | (go_at_call 138; exact Later.call (HMK.out _)) | (go_at_call 158; exact Later.call (HSM.out _)))))
        refine wpQuiet_later fun w5 q5 => ?_
        go_wp2_with fail
        go_roundw
        case rel => exact ⟨k + 1, by omega, by go_num, hq.tr q5⟩
        case measure => simp [intOf]; omega
    · go_wp2_with fail
      go_ret
      exact ⟨rfl, hq⟩
end Go.Proofs.YtippdjaakcgeoaaGreat

namespace Go.Proofs.YtippdjaakcgeoaaGreat
open Go Go.RowKit
set_option linter.unusedVariables false
set_option linter.unusedSimpArgs false
set_option maxRecDepth 100000 in
set_option maxHeartbeats 16000000 in
theorem kept_let (w : World) (F1 F2 : Nat → Prop) (x y : LetM) (hx : LetLent w F1 x) (hy : LetIn w F2 y) (he : x.x = y.x) (hz : LetSz x) :
    Calls Tryz.prog 40 #[.agg (letA x), .agg (letA y)] w fun e w' => e = .returned (.bool (true)) ∧ Nw w w' := by
  have h_e : x.ents.l.map EntM.x = y.ents.l.map EntM.x := congrArg LetF.ents he
  have h_s : x.base.x = y.base.x := congrArg LetF.base he
  have h_b : x.bytes.l = y.bytes.l := congrArg LetF.bytes he
  obtain ⟨W0, hW0⟩ : ∃ W, W = w.alloc (.cells #[U8V x.kind, I64 x.group, I64 x.src, I64 x.dst, I64 x.term, I64 x.index, I64 x.logt, I64 x.commit, .bool x.ok, .slice x.ents.a x.ents.l.length x.ents.c, I64 x.base.index, I64 x.base.term, .slice x.base.cfg.v.a x.base.cfg.v.l.length x.base.cfg.v.c, .slice x.base.cfg.o.a x.base.cfg.o.l.length x.base.cfg.o.c, .slice x.base.cfg.l.a x.base.cfg.l.l.length x.base.cfg.l.c, .slice x.base.cfg.w.a x.base.cfg.w.l.length x.base.cfg.w.c, I64 x.size, I64 x.at_, I64 x.tag, .slice x.bytes.a x.bytes.l.length x.bytes.c] 50) := ⟨_, rfl⟩
  have p0 : Nw w W0 := by rw [hW0]; exact (Fr.refl (fun _ => False) _).alloc _
  have b0 : Blk W0 w.heap.size 50 #[U8V x.kind, I64 x.group, I64 x.src, I64 x.dst, I64 x.term, I64 x.index, I64 x.logt, I64 x.commit, .bool x.ok, .slice x.ents.a x.ents.l.length x.ents.c, I64 x.base.index, I64 x.base.term, .slice x.base.cfg.v.a x.base.cfg.v.l.length x.base.cfg.v.c, .slice x.base.cfg.o.a x.base.cfg.o.l.length x.base.cfg.o.c, .slice x.base.cfg.l.a x.base.cfg.l.l.length x.base.cfg.l.c, .slice x.base.cfg.w.a x.base.cfg.w.l.length x.base.cfg.w.c, I64 x.size, I64 x.at_, I64 x.tag, .slice x.bytes.a x.bytes.l.length x.bytes.c] := by rw [hW0]; exact Blk.new _ _ _
  have hz1 : W0.heap.size = w.heap.size + 1 := by rw [hW0]; simp
  obtain ⟨W1, hW1⟩ : ∃ W, W = W0.alloc (.cells #[U8V y.kind, I64 y.group, I64 y.src, I64 y.dst, I64 y.term, I64 y.index, I64 y.logt, I64 y.commit, .bool y.ok, .slice y.ents.a y.ents.l.length y.ents.c, I64 y.base.index, I64 y.base.term, .slice y.base.cfg.v.a y.base.cfg.v.l.length y.base.cfg.v.c, .slice y.base.cfg.o.a y.base.cfg.o.l.length y.base.cfg.o.c, .slice y.base.cfg.l.a y.base.cfg.l.l.length y.base.cfg.l.c, .slice y.base.cfg.w.a y.base.cfg.w.l.length y.base.cfg.w.c, I64 y.size, I64 y.at_, I64 y.tag, .slice y.bytes.a y.bytes.l.length y.bytes.c] 50) := ⟨_, rfl⟩
  have p1 : Nw W0 W1 := by rw [hW1]; exact (Fr.refl (fun _ => False) _).alloc _
  have b1 : Blk W1 (w.heap.size + 1) 50 #[U8V y.kind, I64 y.group, I64 y.src, I64 y.dst, I64 y.term, I64 y.index, I64 y.logt, I64 y.commit, .bool y.ok, .slice y.ents.a y.ents.l.length y.ents.c, I64 y.base.index, I64 y.base.term, .slice y.base.cfg.v.a y.base.cfg.v.l.length y.base.cfg.v.c, .slice y.base.cfg.o.a y.base.cfg.o.l.length y.base.cfg.o.c, .slice y.base.cfg.l.a y.base.cfg.l.l.length y.base.cfg.l.c, .slice y.base.cfg.w.a y.base.cfg.w.l.length y.base.cfg.w.c, I64 y.size, I64 y.at_, I64 y.tag, .slice y.bytes.a y.bytes.l.length y.bytes.c] := by rw [hW1, ← hz1]; exact Blk.new _ _ _
  have Q0 : Nw w W1 := p0.tr p1
  have b0 := b0.fr p1 (fun h => h)
  have z1 : ∀ m : Later W1, Calls Tryz.prog 38 #[.agg #[U8V x.kind, I64 x.group, I64 x.src, I64 x.dst, I64 x.term, I64 x.index, I64 x.logt, I64 x.commit, .bool x.ok, .slice x.ents.a x.ents.l.length x.ents.c, I64 x.base.index, I64 x.base.term, .slice x.base.cfg.v.a x.base.cfg.v.l.length x.base.cfg.v.c, .slice x.base.cfg.o.a x.base.cfg.o.l.length x.base.cfg.o.c, .slice x.base.cfg.l.a x.base.cfg.l.l.length x.base.cfg.l.c, .slice x.base.cfg.w.a x.base.cfg.w.l.length x.base.cfg.w.c, I64 x.size, I64 x.at_, I64 x.tag, .slice x.bytes.a x.bytes.l.length x.bytes.c], .agg #[U8V y.kind, I64 y.group, I64 y.src, I64 y.dst, I64 y.term, I64 y.index, I64 y.logt, I64 y.commit, .bool y.ok, .slice y.ents.a y.ents.l.length y.ents.c, I64 y.base.index, I64 y.base.term, .slice y.base.cfg.v.a y.base.cfg.v.l.length y.base.cfg.v.c, .slice y.base.cfg.o.a y.base.cfg.o.l.length y.base.cfg.o.c, .slice y.base.cfg.l.a y.base.cfg.l.l.length y.base.cfg.l.c, .slice y.base.cfg.w.a y.base.cfg.w.l.length y.base.cfg.w.c, I64 y.size, I64 y.at_, I64 y.tag, .slice y.bytes.a y.bytes.l.length y.bytes.c]] m.at_ fun e w' => e = .returned (.bool (true)) ∧ Nw m.at_ w' := fun m => by
    have f := Q0.tr m.nw
    exact (same_let _ F1 F2 _ _ (hx.in_.nw f) (hy.nw f) hz).mono fun e w' h => ⟨by rw [decide_eq_true he] at h; exact h.1, h.2⟩
  have z2 : ∀ m : Later W1, Calls Tryz.prog 90 #[.slice x.ents.a x.ents.l.length x.ents.c, .slice y.ents.a y.ents.l.length y.ents.c] m.at_ fun e w' => e = .returned (.bool (true)) ∧ Nw m.at_ w' := fun m => by
    have f := Q0.tr m.nw
    exact kept_ents _ F1 F2 x.ents (hx.ents.nw f) _ _ _ ((hy.ents.nw f).sl) (fun e he => (hy.each e he).nw f) h_e hz.each (by have := hz.ents; omega)
  have z3 : ∀ m : Later W1, Calls Tryz.prog 91 #[.agg #[I64 x.base.index, I64 x.base.term, .slice x.base.cfg.v.a x.base.cfg.v.l.length x.base.cfg.v.c, .slice x.base.cfg.o.a x.base.cfg.o.l.length x.base.cfg.o.c, .slice x.base.cfg.l.a x.base.cfg.l.l.length x.base.cfg.l.c, .slice x.base.cfg.w.a x.base.cfg.w.l.length x.base.cfg.w.c], .agg #[I64 y.base.index, I64 y.base.term, .slice y.base.cfg.v.a y.base.cfg.v.l.length y.base.cfg.v.c, .slice y.base.cfg.o.a y.base.cfg.o.l.length y.base.cfg.o.c, .slice y.base.cfg.l.a y.base.cfg.l.l.length y.base.cfg.l.c, .slice y.base.cfg.w.a y.base.cfg.w.l.length y.base.cfg.w.c]] m.at_ fun e w' => e = .returned (.bool (true)) ∧ Nw m.at_ w' := fun m => by
    have f := Q0.tr m.nw
    exact kept_bas _ F1 F2 _ _ (hx.cfg.nw f) (hy.cfg.nw f) h_s hz.cfg
  have z4 : ∀ m : Later W1, Calls Tryz.prog 46 #[.slice x.bytes.a x.bytes.l.length x.bytes.c, .slice y.bytes.a y.bytes.l.length y.bytes.c] m.at_ fun e w' => e = .returned (.bool (true)) ∧ Nw m.at_ w' := fun m => by
    have f := Q0.tr m.nw
    exact kept_by _ F1 F2 x.bytes (hx.bytes.nw f) _ _ _ ((hy.bytes.nw f).sl) h_b (by have := hz.bytes; omega)
  have hS : ∀ w1, Nw W1 w1 → w1.cell? ⟨w.heap.size, 0, none⟩ = some (U8V x.kind) ∧ w1.cell? ⟨w.heap.size, 1, none⟩ = some (I64 x.group) ∧ w1.cell? ⟨w.heap.size, 2, none⟩ = some (I64 x.src) ∧ w1.cell? ⟨w.heap.size, 3, none⟩ = some (I64 x.dst) ∧ w1.cell? ⟨w.heap.size, 4, none⟩ = some (I64 x.term) ∧ w1.cell? ⟨w.heap.size, 5, none⟩ = some (I64 x.index) ∧ w1.cell? ⟨w.heap.size, 6, none⟩ = some (I64 x.logt) ∧ w1.cell? ⟨w.heap.size, 7, none⟩ = some (I64 x.commit) ∧ w1.cell? ⟨w.heap.size, 8, none⟩ = some (.bool x.ok) ∧ w1.cell? ⟨w.heap.size, 9, none⟩ = some (.slice x.ents.a x.ents.l.length x.ents.c) ∧ w1.cell? ⟨w.heap.size, 10, none⟩ = some (I64 x.base.index) ∧ w1.cell? ⟨w.heap.size, 11, none⟩ = some (I64 x.base.term) ∧ w1.cell? ⟨w.heap.size, 12, none⟩ = some (.slice x.base.cfg.v.a x.base.cfg.v.l.length x.base.cfg.v.c) ∧ w1.cell? ⟨w.heap.size, 13, none⟩ = some (.slice x.base.cfg.o.a x.base.cfg.o.l.length x.base.cfg.o.c) ∧ w1.cell? ⟨w.heap.size, 14, none⟩ = some (.slice x.base.cfg.l.a x.base.cfg.l.l.length x.base.cfg.l.c) ∧ w1.cell? ⟨w.heap.size, 15, none⟩ = some (.slice x.base.cfg.w.a x.base.cfg.w.l.length x.base.cfg.w.c) ∧ w1.cell? ⟨w.heap.size, 16, none⟩ = some (I64 x.size) ∧ w1.cell? ⟨w.heap.size, 17, none⟩ = some (I64 x.at_) ∧ w1.cell? ⟨w.heap.size, 18, none⟩ = some (I64 x.tag) ∧ w1.cell? ⟨w.heap.size, 19, none⟩ = some (.slice x.bytes.a x.bytes.l.length x.bytes.c) ∧ w1.cell? ⟨(w.heap.size + 1), 0, none⟩ = some (U8V y.kind) ∧ w1.cell? ⟨(w.heap.size + 1), 1, none⟩ = some (I64 y.group) ∧ w1.cell? ⟨(w.heap.size + 1), 2, none⟩ = some (I64 y.src) ∧ w1.cell? ⟨(w.heap.size + 1), 3, none⟩ = some (I64 y.dst) ∧ w1.cell? ⟨(w.heap.size + 1), 4, none⟩ = some (I64 y.term) ∧ w1.cell? ⟨(w.heap.size + 1), 5, none⟩ = some (I64 y.index) ∧ w1.cell? ⟨(w.heap.size + 1), 6, none⟩ = some (I64 y.logt) ∧ w1.cell? ⟨(w.heap.size + 1), 7, none⟩ = some (I64 y.commit) ∧ w1.cell? ⟨(w.heap.size + 1), 8, none⟩ = some (.bool y.ok) ∧ w1.cell? ⟨(w.heap.size + 1), 9, none⟩ = some (.slice y.ents.a y.ents.l.length y.ents.c) ∧ w1.cell? ⟨(w.heap.size + 1), 10, none⟩ = some (I64 y.base.index) ∧ w1.cell? ⟨(w.heap.size + 1), 11, none⟩ = some (I64 y.base.term) ∧ w1.cell? ⟨(w.heap.size + 1), 12, none⟩ = some (.slice y.base.cfg.v.a y.base.cfg.v.l.length y.base.cfg.v.c) ∧ w1.cell? ⟨(w.heap.size + 1), 13, none⟩ = some (.slice y.base.cfg.o.a y.base.cfg.o.l.length y.base.cfg.o.c) ∧ w1.cell? ⟨(w.heap.size + 1), 14, none⟩ = some (.slice y.base.cfg.l.a y.base.cfg.l.l.length y.base.cfg.l.c) ∧ w1.cell? ⟨(w.heap.size + 1), 15, none⟩ = some (.slice y.base.cfg.w.a y.base.cfg.w.l.length y.base.cfg.w.c) ∧ w1.cell? ⟨(w.heap.size + 1), 16, none⟩ = some (I64 y.size) ∧ w1.cell? ⟨(w.heap.size + 1), 17, none⟩ = some (I64 y.at_) ∧ w1.cell? ⟨(w.heap.size + 1), 18, none⟩ = some (I64 y.tag) ∧ w1.cell? ⟨(w.heap.size + 1), 19, none⟩ = some (.slice y.bytes.a y.bytes.l.length y.bytes.c) := fun w1 f => by
    have a0 := b0.fr f (fun h => h)
    have a1 := b1.fr f (fun h => h)
    exact ⟨by simpa using a0.cell 0, by simpa using a0.cell 1, by simpa using a0.cell 2, by simpa using a0.cell 3, by simpa using a0.cell 4, by simpa using a0.cell 5, by simpa using a0.cell 6, by simpa using a0.cell 7, by simpa using a0.cell 8, by simpa using a0.cell 9, by simpa using a0.cell 10, by simpa using a0.cell 11, by simpa using a0.cell 12, by simpa using a0.cell 13, by simpa using a0.cell 14, by simpa using a0.cell 15, by simpa using a0.cell 16, by simpa using a0.cell 17, by simpa using a0.cell 18, by simpa using a0.cell 19, by simpa using a1.cell 0, by simpa using a1.cell 1, by simpa using a1.cell 2, by simpa using a1.cell 3, by simpa using a1.cell 4, by simpa using a1.cell 5, by simpa using a1.cell 6, by simpa using a1.cell 7, by simpa using a1.cell 8, by simpa using a1.cell 9, by simpa using a1.cell 10, by simpa using a1.cell 11, by simpa using a1.cell 12, by simpa using a1.cell 13, by simpa using a1.cell 14, by simpa using a1.cell 15, by simpa using a1.cell 16, by simpa using a1.cell 17, by simpa using a1.cell 18, by simpa using a1.cell 19⟩
  have HW0 := Lib.hid hW0
  have HW1 := Lib.hid hW1
  clear hW0 hW1 
  clear h_e h_s h_b he
  go_enter Tryz.func40, Tryz.ntmps40
  go_upto_region 1 with (fail)
  rw [← HW0.out, ← HW1.out]
  have bb1_0 := b0.fr (Fr.refl (fun _ => False) W1) (fun h => h)
  have bb1_1 := b1.fr (Fr.refl (fun _ => False) W1) (fun h => h)
  go_wp2_with (first | (refine wpList_load_row rfl 50 _ rfl w.heap.size rfl 50 _ (0, 0) _ bb1_0 Tryz.underlying50 rfl (by kernel_rfl) ?_) | (refine wpList_load_row rfl 50 _ rfl (w.heap.size + 1) rfl 50 _ (0, 0) _ bb1_1 Tryz.underlying50 rfl (by kernel_rfl) ?_))
  refine (z1 ⟨_, (Fr.refl (fun _ => False) W1)⟩).mono ?_
  rintro e v1 ⟨rfl, r1⟩
  clear bb1_0 bb1_1
  have Q1 : Nw W1 v1 := (Fr.refl (fun _ => False) W1).tr r1
  obtain ⟨_, _, _, _, _, _, _, _, _, k1_0_9, _, _, _, _, _, _, _, _, _, _, _, _, _, _, _, _, _, _, _, k1_1_9, _, _, _, _, _, _, _, _, _, _⟩ := hS v1 Q1
  go_wp2_with fail
  refine (z2 ⟨_, Q1⟩).mono ?_
  rintro e v2 ⟨rfl, r2⟩
  have Q2 : Nw W1 v2 := Q1.tr r2
  have bb3_0 := b0.fr Q2 (fun h => h)
  have bs3_0 : ∀ p u, ([I64 x.base.index, I64 x.base.term, .slice x.base.cfg.v.a x.base.cfg.v.l.length x.base.cfg.v.c, .slice x.base.cfg.o.a x.base.cfg.o.l.length x.base.cfg.o.c, .slice x.base.cfg.l.a x.base.cfg.l.l.length x.base.cfg.l.c, .slice x.base.cfg.w.a x.base.cfg.w.l.length x.base.cfg.w.c] : List Value)[p]? = some u → _ := Blk.cells_in (l := [U8V x.kind, I64 x.group, I64 x.src, I64 x.dst, I64 x.term, I64 x.index, I64 x.logt, I64 x.commit, .bool x.ok, .slice x.ents.a x.ents.l.length x.ents.c, I64 x.base.index, I64 x.base.term, .slice x.base.cfg.v.a x.base.cfg.v.l.length x.base.cfg.v.c, .slice x.base.cfg.o.a x.base.cfg.o.l.length x.base.cfg.o.c, .slice x.base.cfg.l.a x.base.cfg.l.l.length x.base.cfg.l.c, .slice x.base.cfg.w.a x.base.cfg.w.l.length x.base.cfg.w.c, I64 x.size, I64 x.at_, I64 x.tag, .slice x.bytes.a x.bytes.l.length x.bytes.c]) bb3_0 10 6
  have bb3_1 := b1.fr Q2 (fun h => h)
  have bs3_1 : ∀ p u, ([I64 y.base.index, I64 y.base.term, .slice y.base.cfg.v.a y.base.cfg.v.l.length y.base.cfg.v.c, .slice y.base.cfg.o.a y.base.cfg.o.l.length y.base.cfg.o.c, .slice y.base.cfg.l.a y.base.cfg.l.l.length y.base.cfg.l.c, .slice y.base.cfg.w.a y.base.cfg.w.l.length y.base.cfg.w.c] : List Value)[p]? = some u → _ := Blk.cells_in (l := [U8V y.kind, I64 y.group, I64 y.src, I64 y.dst, I64 y.term, I64 y.index, I64 y.logt, I64 y.commit, .bool y.ok, .slice y.ents.a y.ents.l.length y.ents.c, I64 y.base.index, I64 y.base.term, .slice y.base.cfg.v.a y.base.cfg.v.l.length y.base.cfg.v.c, .slice y.base.cfg.o.a y.base.cfg.o.l.length y.base.cfg.o.c, .slice y.base.cfg.l.a y.base.cfg.l.l.length y.base.cfg.l.c, .slice y.base.cfg.w.a y.base.cfg.w.l.length y.base.cfg.w.c, I64 y.size, I64 y.at_, I64 y.tag, .slice y.bytes.a y.bytes.l.length y.bytes.c]) bb3_1 10 6
  go_wp2_with (first | (refine wl_load_cells rfl 47 _ rfl w.heap.size 10 rfl [I64 x.base.index, I64 x.base.term, .slice x.base.cfg.v.a x.base.cfg.v.l.length x.base.cfg.v.c, .slice x.base.cfg.o.a x.base.cfg.o.l.length x.base.cfg.o.c, .slice x.base.cfg.l.a x.base.cfg.l.l.length x.base.cfg.l.c, .slice x.base.cfg.w.a x.base.cfg.w.l.length x.base.cfg.w.c] _ bs3_0 Tryz.underlying47 rfl (by kernel_rfl) ?_) | (refine wl_load_cells rfl 47 _ rfl (w.heap.size + 1) 10 rfl [I64 y.base.index, I64 y.base.term, .slice y.base.cfg.v.a y.base.cfg.v.l.length y.base.cfg.v.c, .slice y.base.cfg.o.a y.base.cfg.o.l.length y.base.cfg.o.c, .slice y.base.cfg.l.a y.base.cfg.l.l.length y.base.cfg.l.c, .slice y.base.cfg.w.a y.base.cfg.w.l.length y.base.cfg.w.c] _ bs3_1 Tryz.underlying47 rfl (by kernel_rfl) ?_))
  refine (z3 ⟨_, Q2⟩).mono ?_
  rintro e v3 ⟨rfl, r3⟩
  clear bb3_0 bs3_0 bb3_1 bs3_1
  have Q3 : Nw W1 v3 := Q2.tr r3
  obtain ⟨_, _, _, _, _, _, _, _, _, _, _, _, _, _, _, _, _, _, _, k3_0_19, _, _, _, _, _, _, _, _, _, _, _, _, _, _, _, _, _, _, _, k3_1_19⟩ := hS v3 Q3
  go_wp2_with fail
  refine (z4 ⟨_, Q3⟩).mono ?_
  rintro e v4 ⟨rfl, r4⟩
  have Q4 : Nw W1 v4 := Q3.tr r4
  go_wp2_with fail
  go_ret
  exact ⟨rfl, Q0.tr Q4⟩
def kept_letsR (w : World) (n : Nat) (i : Value) (wr : World) : Prop := ∃ k : Nat, k ≤ n + 12 ∧ i = .int .i64 k ∧ Nw w wr
set_option maxRecDepth 100000 in
set_option maxHeartbeats 8000000 in
theorem kept_lets (w : World) (F1 F2 : Nat → Prop) (s : Ls LetM) (hs : LetsLent w F1 s) (A2 : Option Addr) (c2 : Nat) (ys : List LetM) (h2 : Sl w F2 A2 (letsC ys)) (e2 : ∀ e ∈ ys, LetIn w F2 e) (he : s.l.map LetM.x = ys.map LetM.x) (hz : ∀ e ∈ s.l, LetSz e) (hsz : s.l.length ≤ 100000000) :
    Calls Tryz.prog 39 #[s.v, .slice A2 ys.length c2] w fun e w' => e = .returned (.bool true) ∧ Nw w w' := by
  obtain ⟨⟨g, hg, hc, hcm, ho, hF⟩, hev⟩ := hs
  have hyl : ys.length = s.l.length := by have := congrArg List.length he; simpa using this.symm
  obtain ⟨n, hn⟩ : ∃ n, s.l.length = n := ⟨_, rfl⟩
  have hsl := slice_h (P := Tryz.prog) 28 under_lets 20 size_lets (some ⟨g, 0, none⟩) n (n + 12) (n + 12) (Nat.le_refl _)
  have e12 : (((n + 12 : Nat)) : Int) = (n : Int) + 12 := by omega
  rw [e12] at hsl
  unfold Ls.v
  rw [hg, hc, hyl, hn]
  rw [hn] at ho
  have HN := Lib.hid hn
  have HYL := Lib.hid hyl
  have HE := Lib.hid he
  have HEV := Lib.hid hev
  have E2 := Lib.hid e2
  have HZ := Lib.hid hz
  clear hg hc hn hyl he hev e2 hz
  rw [HN.out] at hsz
  have hnn : ((n : Int) != (n : Int)) = false := by simp
  go_enter Tryz.func39, Tryz.ntmps39
  go_wp2_with fail
  go_loopw [6] (fun i wr => kept_letsR w n i wr) (fun i _ => n + 12 - (intOf i).toNat)
  case atStart => exact ⟨0, by omega, rfl, Fr.refl _ _⟩
  case round =>
    obtain ⟨k, hk, rfl, hq⟩ := hrel
    by_cases hlt : k < n + 12
    · have hl12 : k < (s.l ++ behL).length := by rw [List.length_append, behL_len, HN.out]; exact hlt
      obtain ⟨b1, o1, hbo, _, _, hc1⟩ := ((ho.fr hq (fun _ _ h => h)).sl).let_ hl12
      injection hbo with hbo
      injection hbo with e1 e2 _
      subst e1
      subst e2
      simp only [Nat.zero_add] at hc1
      have hi0 : (k : Int) < (n : Int) + 12 := by omega
      by_cases hlt2 : k < n
      · have hkl : k < s.l.length := by rw [HN.out]; exact hlt2
        have hky : k < ys.length := by rw [HYL.out]; exact hkl
        obtain ⟨b2, o2, rfl, _, _, hc2⟩ := (h2.fr hq (fun _ _ h => h)).let_ hky
        rw [List.getElem_append_left hkl] at hc1
        have hxy : (s.l[k]).x = (ys[k]).x := by
          have h3 := congrArg (fun l => l[k]?) HE.out
          simp only [List.getElem?_map, List.getElem?_eq_getElem hkl, List.getElem?_eq_getElem hky, Option.map_some] at h3
          injection h3
        have x1 := (HEV.out _ (List.getElem_mem hkl)).nw hq
        have x2 := (E2.out _ (List.getElem_mem hky)).nw hq
        have z1 := HZ.out _ (List.getElem_mem hkl)
        obtain ⟨x, hx⟩ : ∃ x, s.l[k] = x := ⟨_, rfl⟩
        obtain ⟨y, hy⟩ : ∃ y, ys[k] = y := ⟨_, rfl⟩
        rw [hx] at hc1 x1 z1 hxy
        rw [hy] at hc2 x2 hxy
        have hkp : ∀ m : Later wr, Calls Tryz.prog 40 #[.agg #[U8V x.kind, I64 x.group, I64 x.src, I64 x.dst, I64 x.term, I64 x.index, I64 x.logt, I64 x.commit, .bool x.ok, .slice x.ents.a x.ents.l.length x.ents.c, I64 x.base.index, I64 x.base.term, .slice x.base.cfg.v.a x.base.cfg.v.l.length x.base.cfg.v.c, .slice x.base.cfg.o.a x.base.cfg.o.l.length x.base.cfg.o.c, .slice x.base.cfg.l.a x.base.cfg.l.l.length x.base.cfg.l.c, .slice x.base.cfg.w.a x.base.cfg.w.l.length x.base.cfg.w.c, I64 x.size, I64 x.at_, I64 x.tag, .slice x.bytes.a x.bytes.l.length x.bytes.c], .agg #[U8V y.kind, I64 y.group, I64 y.src, I64 y.dst, I64 y.term, I64 y.index, I64 y.logt, I64 y.commit, .bool y.ok, .slice y.ents.a y.ents.l.length y.ents.c, I64 y.base.index, I64 y.base.term, .slice y.base.cfg.v.a y.base.cfg.v.l.length y.base.cfg.v.c, .slice y.base.cfg.o.a y.base.cfg.o.l.length y.base.cfg.o.c, .slice y.base.cfg.l.a y.base.cfg.l.l.length y.base.cfg.l.c, .slice y.base.cfg.w.a y.base.cfg.w.l.length y.base.cfg.w.c, I64 y.size, I64 y.at_, I64 y.tag, .slice y.bytes.a y.bytes.l.length y.bytes.c]] m.at_ fun e w' => e = .returned (.bool true) ∧ Nw m.at_ w' := fun m => kept_let _ F1 F2 x y (x1.nw m.nw) (x2.nw m.nw) hxy z1
        have HK := Lib.hid hkp
        have L1 := Lib.hid (Later.cells hc1)
        have L2 := Lib.hid (Later.cells hc2)
        clear hx hy hc1 hc2 hxy x1 x2 z1 hkp
        have hi1 : (k : Int) < (n : Int) := by omega
        have hi2 : decide ((n : Int) ≤ (k : Int)) = false := by simp; omega
        have hi3 : decide (n ≤ k) = false := by simp; omega
        have hi4 : decide ((k : Int) < (n : Int)) = true := decide_eq_true hi1
        have hi5 : decide (k < n) = true := decide_eq_true hlt2
        go_wp2_with fail
        refine wp_region_later (by kernel_rfl) (by kernel_rfl) ?_
        iterate 8 (go_big_quiet_step (fail))
        refine quiet_load_cells (by kernel_rfl) 50 _ rfl _ (k * 20) rfl _ _ L1.out Tryz.underlying50 rfl (by kernel_rfl) ?_
        simp only [Act.put, List.setIfInBounds_toArray, List.set_cons_succ, List.set_cons_zero]
        iterate 3 (go_big_quiet_step (fail))
        refine quiet_load_cells (by kernel_rfl) 50 _ rfl b2 (o2 + k * 20) rfl _ _ L2.out Tryz.underlying50 rfl (by kernel_rfl) ?_
        simp only [Act.put, List.setIfInBounds_toArray, List.set_cons_succ, List.set_cons_zero]
        repeat (go_big_quiet_step ((go_at_call 40; exact Later.call (HK.out _))))
        refine wpQuiet_later fun w5 q5 => ?_
        go_wp2_with fail
        go_roundw
        case rel => exact ⟨k + 1, by omega, by go_num, hq.tr q5⟩
        case measure => simp [intOf]; omega
      · rw [List.getElem_append_right (by rw [HN.out]; omega)] at hc1
        have hv : behL[k - s.l.length]'(by rw [behL_len, HN.out]; omega) = mkLe 1 (k - n) := by simp [behL, HN.out]
        rw [hv] at hc1
        clear hv
        have hi1 : decide ((k : Int) < (n : Int)) = false := by simp; omega
        have hi3 : decide (k < n) = false := by simp; omega
        have hi2 : (n : Int) ≤ (k : Int) := by omega
        have hi4 : decide ((n : Int) ≤ (k : Int)) = true := decide_eq_true hi2
        have hi5 : decide (n ≤ k) = true := decide_eq_true (by omega)
        obtain ⟨j, hj⟩ : ∃ j, j = k - n := ⟨_, rfl⟩
        rw [← hj] at hc1
        have hju : ((j : Nat) : Int) = (k : Int) - (n : Int) := by omega
        have hmk : ∀ m : Later wr, _ := fun m => markLetter_any m.at_ 1 j (by omega) (by omega)
        rw [hju] at hmk
        have hsm : ∀ m : Later wr, Calls Tryz.prog 38 #[.agg #[U8V (mkLe 1 j).kind, I64 (mkLe 1 j).group, I64 (mkLe 1 j).src, I64 (mkLe 1 j).dst, I64 (mkLe 1 j).term, I64 (mkLe 1 j).index, I64 (mkLe 1 j).logt, I64 (mkLe 1 j).commit, .bool (mkLe 1 j).ok, .slice (mkLe 1 j).ents.a (mkLe 1 j).ents.l.length (mkLe 1 j).ents.c, I64 (mkLe 1 j).base.index, I64 (mkLe 1 j).base.term, .slice (mkLe 1 j).base.cfg.v.a (mkLe 1 j).base.cfg.v.l.length (mkLe 1 j).base.cfg.v.c, .slice (mkLe 1 j).base.cfg.o.a (mkLe 1 j).base.cfg.o.l.length (mkLe 1 j).base.cfg.o.c, .slice (mkLe 1 j).base.cfg.l.a (mkLe 1 j).base.cfg.l.l.length (mkLe 1 j).base.cfg.l.c, .slice (mkLe 1 j).base.cfg.w.a (mkLe 1 j).base.cfg.w.l.length (mkLe 1 j).base.cfg.w.c, I64 (mkLe 1 j).size, I64 (mkLe 1 j).at_, I64 (mkLe 1 j).tag, .slice (mkLe 1 j).bytes.a (mkLe 1 j).bytes.l.length (mkLe 1 j).bytes.c], .agg #[U8V (mkLe 1 j).kind, I64 (mkLe 1 j).group, I64 (mkLe 1 j).src, I64 (mkLe 1 j).dst, I64 (mkLe 1 j).term, I64 (mkLe 1 j).index, I64 (mkLe 1 j).logt, I64 (mkLe 1 j).commit, .bool (mkLe 1 j).ok, .slice (mkLe 1 j).ents.a (mkLe 1 j).ents.l.length (mkLe 1 j).ents.c, I64 (mkLe 1 j).base.index, I64 (mkLe 1 j).base.term, .slice (mkLe 1 j).base.cfg.v.a (mkLe 1 j).base.cfg.v.l.length (mkLe 1 j).base.cfg.v.c, .slice (mkLe 1 j).base.cfg.o.a (mkLe 1 j).base.cfg.o.l.length (mkLe 1 j).base.cfg.o.c, .slice (mkLe 1 j).base.cfg.l.a (mkLe 1 j).base.cfg.l.l.length (mkLe 1 j).base.cfg.l.c, .slice (mkLe 1 j).base.cfg.w.a (mkLe 1 j).base.cfg.w.l.length (mkLe 1 j).base.cfg.w.c, I64 (mkLe 1 j).size, I64 (mkLe 1 j).at_, I64 (mkLe 1 j).tag, .slice (mkLe 1 j).bytes.a (mkLe 1 j).bytes.l.length (mkLe 1 j).bytes.c]] m.at_ fun e w' => e = .returned (.bool true) ∧ Nw m.at_ w' := fun m =>
          (same_let m.at_ (fun _ => False) (fun _ => False) (mkLe 1 j) (mkLe 1 j) (LetIn.mark _ _ _ _) (LetIn.mark _ _ _ _) LetSz.zero').mono fun e w' h => ⟨by simpa using h.1, h.2⟩
        have HMK := Lib.hid hmk
        have HSM := Lib.hid hsm
        have L1 := Lib.hid (Later.cells hc1)
        clear hc1 hmk hsm hju hj
        have hsub2 : IntKind.i64.wrap ((k : Int) - (n : Int)) = (k : Int) - (n : Int) := IntWalk.i64_in _ (by omega)
        go_wp2_with fail
        refine wp_region_later (by kernel_rfl) (by kernel_rfl) ?_
        iterate 25 (go_big_quiet_step (fail))
        refine quiet_load_cells (by kernel_rfl) 50 _ rfl _ (k * 20) rfl _ _ L1.out Tryz.underlying50 rfl (by kernel_rfl) ?_
        simp only [Act.put, List.setIfInBounds_toArray, List.set_cons_succ, List.set_cons_zero]
        repeat (go_big_quiet_step ((first | (go_at_call 65; exact Later.call (HMK.out _)) | (go_at_call 38; exact Later.call (HSM.out _)))))
        refine wpQuiet_later fun w5 q5 => ?_
        go_wp2_with fail
        go_roundw
        case rel => exact ⟨k + 1, by omega, by go_num, hq.tr q5⟩
        case measure => simp [intOf]; omega
    · go_wp2_with fail
      go_ret
      exact ⟨rfl, hq⟩
end Go.Proofs.YtippdjaakcgeoaaGreat
