/- Answers put, by the program. (Printed by genoj.py.) -/
import Derived.Test.YtkjnlhidnkbelaaGreatDoorOwB
import Derived.Test.YtkjnlhidnkbelaaGreatDoorGr7
import Derived.Test.YtkjnlhidnkbelaaGreatDoorOwA
import Derived.Deep.RegionHeld3
namespace Go.Proofs.YtkjnlhidnkbelaaGreatDoor
open Go Go.RowKit
set_option linter.unusedVariables false
set_option linter.unusedSimpArgs false
set_option maxRecDepth 100000 in
set_option maxHeartbeats 8000000 in
theorem oputAns_any (w : World) (F : Nat → Prop) (x : AnsF) (p : Pl) (hi : AnsIn w F x p) (hz : AnsSz x) :
    Calls Tryz.prog 15 #[.agg (afA x p)] w fun e w' => PutTo w (if ansOk x = true then some (ansB x) else none) e w' := by
  obtain ⟨W0, hW0⟩ : ∃ W0, W0 = w.alloc (.cells (afA x p) 41) := ⟨_, rfl⟩
  have q0 : Nw w W0 := by rw [hW0]; exact (Fr.refl (fun _ => False) w).alloc _
  have x0 : Blk W0 w.heap.size 41 (afA x p) := by rw [hW0]; exact Blk.new w _ _
  have hz0 : W0.heap.size = w.heap.size + 1 := by rw [hW0]; simp
  obtain ⟨W1, hW1⟩ : ∃ W1, W1 = W0.alloc (.cells (afA x p) 41) := ⟨_, rfl⟩
  have q1 : Nw W0 W1 := by rw [hW1]; exact (Fr.refl (fun _ => False) W0).alloc _
  have y1 : Blk W1 (w.heap.size + 1) 41 (afA x p) := by rw [hW1, ← hz0]; exact Blk.new W0 _ _
  have x1 := x0.fr q1 (fun h => h)
  have q01 := q0.tr q1
  have hcon := oSound_any W1 F (w.heap.size + 1) x p y1 (hi.fr q01 (fun _ _ h => h)) hz
  have HW0 := Lib.hid hW0
  have HW1 := Lib.hid hW1
  clear hW0 hW1 y1
  cases hok : ansOk x with
  | false =>
    rw [hok] at hcon
    rw [if_neg (by simp)]
    clear hok
    go_enter Tryz.func15, Tryz.ntmps15
    go_upto_region 1 with (fail)
    rw [← HW0.out]
    go_wp2_with (first | (refine wpList_load_row rfl 41 _ rfl w.heap.size rfl 41 _ (0, 0) _ x0 Tryz.underlying41 rfl ans_size ?_) | (go_at_call 12; rw [← HW1.out]; refine hcon.mono ?_; rintro e w1 ⟨rfl, q2⟩))
    go_ret2
    exact ⟨rfl, q01.tr q2⟩
  | true =>
    have hsm := ansOk_sm hok
    rw [hok] at hcon
    rw [if_pos rfl]
    clear hok
    go_enter Tryz.func15, Tryz.ntmps15
    go_upto_region 1 with (fail)
    rw [← HW0.out]
    go_upto_region 3 with (first | (refine wpList_load_row rfl 41 _ rfl w.heap.size rfl 41 _ (0, 0) _ x0 Tryz.underlying41 rfl ans_size ?_) | (go_at_call 12; rw [← HW1.out]; refine hcon.mono ?_; rintro e w1 ⟨rfl, q2⟩))
    obtain ⟨g, hg⟩ : ∃ g, g = w1.heap.size := ⟨_, rfl⟩
    have hnw := newWriter_any w1
    rw [← hg] at hnw
    have hgw : w.heap.size < g := by have := q01.size; have := q2.size; have := x1.lt; omega
    have Q1 := q01.tr q2
    have x2 := x1.fr q2 (fun h => h)
    clear hg
    go_upto_region 4 with (go_at_call 37; refine hnw.mono ?_; rintro e w2 ⟨rfl, hw2, q3⟩)
    obtain ⟨W3, hW3⟩ : ∃ W3, W3 = w2.alloc (.cells #[.pointer (some ⟨g, 0, none⟩)] 81) := ⟨_, rfl⟩
    have q4 : Nw w2 W3 := by rw [hW3]; exact (Fr.refl (fun _ => False) w2).alloc _
    have s3 : Blk W3 w2.heap.size 81 #[.pointer (some ⟨g, 0, none⟩)] := by rw [hW3]; exact Blk.new w2 _ _
    have st0 : WrTo W3 (· = g) g (W8 []) W3 := WrTo.begin (hw2.fr q4 (fun _ _ h => h))
    have hgs : g < w2.heap.size := hw2.bound g rfl
    obtain ⟨sb, hsb⟩ : ∃ sb, sb = w2.heap.size := ⟨_, rfl⟩
    have Q3 := (Q1.tr q3).tr q4
    have x3 := (x2.fr q3 (fun h => h)).fr q4 (fun h => h)
    have hi3 : AnsIn W3 (fun j => j < w.heap.size ∧ F j) x p := (hi.mono fun j h1 h2 => ⟨h2, h1⟩).fr Q3 (fun _ _ h => h)
    have hS : ∀ w', Fr (· = g) W3 w' → w'.cell? ⟨w.heap.size, 0, none⟩ = some (I64 x.err) ∧ w'.cell? ⟨w.heap.size, 1, none⟩ = some (I64 x.nm.1) ∧ w'.cell? ⟨w.heap.size, 2, none⟩ = some (I64 x.nm.2) ∧ w'.cell? ⟨w.heap.size, 3, none⟩ = some (.bool x.is) ∧ w'.cell? ⟨w.heap.size, 4, none⟩ = some (.bool x.commit) ∧ w'.cell? ⟨w.heap.size, 5, none⟩ = some (.slice p.r x.reads.length p.cr) ∧ w'.cell? ⟨w.heap.size, 6, none⟩ = some (I64 x.scheme) ∧ w'.cell? ⟨w.heap.size, 7, none⟩ = some (I64 x.stage) ∧ w'.cell? ⟨w.heap.size, 8, none⟩ = some (.slice p.b x.bytes.length p.cb) ∧ w'.cell? ⟨sb, 0, none⟩ = some (.pointer (some ⟨g, 0, none⟩)) := fun w' f => by
      have a := x3.fr f (fun h => by omega)
      have b := s3.fr f (fun h => by omega)
      rw [← hsb] at b
      exact ⟨by simpa using a.cell 0, by simpa using a.cell 1, by simpa using a.cell 2, by simpa using a.cell 3, by simpa using a.cell 4, by simpa using a.cell 5, by simpa using a.cell 6, by simpa using a.cell 7, by simpa using a.cell 8, by simpa using b.cell 0⟩
    have hAp : ∀ wc FC, Fr (· = g) W3 wc → (∀ k, FC k → k = g ∨ W3.heap.size ≤ k) → Apart wc (fun j => j < w.heap.size ∧ F j) FC := fun wc FC f n k hk => by
      have h1 := f.size
      have h2 := Q3.size
      exact ⟨by omega, fun hF => (n k hF).elim (fun h => by omega) (fun h => by omega)⟩
    have HW3 := Lib.hid hW3
    rw [← HW3.out, ← hsb]
    clear hW3 hsb s3 x0 x1 x2 hi hcon
    have L3 := rdgs_most x.reads (rdgOks_sm hsm.reads.2)
    have L5 := hsm.reads.1
    have L7 := enc_len x.reads.length
    have L8 := encAll_le [x.err, x.nm.1, x.nm.2]
    simp only [List.length_cons, List.length_nil] at L8
    have hnm := hsm.nm
    have her := hsm.err
    have hr3 : ∀ z ∈ [x.err, x.nm.1, x.nm.2], Right z := by
      intro z hz
      simp only [List.mem_cons, List.not_mem_nil, or_false] at hz
      rcases hz with rfl | rfl | rfl <;> exact int_right _ (by omega) (by omega)
    obtain ⟨C1, h1, f1, n1⟩ := st0
    have hst := WrC.start (cl := [⟨10, 11, 3, #[I64 x.err, I64 x.nm.1, I64 x.nm.2], encAll [x.err, x.nm.1, x.nm.2]⟩, ⟨16, 17, 4, #[.bool x.is, .bool x.commit], flagB x.is ++ flagB x.commit⟩]) h1 (fun _ => (0, none))
    have hF : ∀ wz, Fr C1 W3 wz → Fr (· = g) W3 wz := fun wz f => f1.trans f n1
    refine wp_region_eff2 _ _ (by kernel_rfl) (by kernel_rfl) hst ?_
    clear hst
    apply wpEff2_cons
    focus
      intro B L wz hL hD hC
      refine .inl ⟨by rfl, ?_⟩
      obtain ⟨y0, y1, y2, y3, y4, y5, y6, y7, y8, ys⟩ := hS wz (hF wz hC.fr)
      unfold effAt
      go_simp
      exact ⟨rfl, hC.keep _ (by rfl)⟩
    simp only [Act.put, List.setIfInBounds_toArray, List.set_cons_zero, List.set_cons_succ]
    apply wpEff2_cons
    focus
      intro B L wz hL hD hC
      refine .inl ⟨by rfl, ?_⟩
      obtain ⟨y0, y1, y2, y3, y4, y5, y6, y7, y8, ys⟩ := hS wz (hF wz hC.fr)
      unfold effAt
      go_simp
      exact ⟨rfl, hC.keep _ (by rfl)⟩
    simp only [Act.put, List.setIfInBounds_toArray, List.set_cons_zero, List.set_cons_succ]
    apply wpEff2_cons
    focus
      intro B L wz hL hD hC
      refine .inl ⟨by rfl, ?_⟩
      obtain ⟨y0, y1, y2, y3, y4, y5, y6, y7, y8, ys⟩ := hS wz (hF wz hC.fr)
      unfold effAt
      go_simp
      exact ⟨rfl, hC.keep _ (by rfl)⟩
    simp only [Act.put, List.setIfInBounds_toArray, List.set_cons_zero, List.set_cons_succ]
    apply wpEff2_cons
    focus
      intro B L wz hL hD hC
      refine .inl ⟨by rfl, ?_⟩
      obtain ⟨y0, y1, y2, y3, y4, y5, y6, y7, y8, ys⟩ := hS wz (hF wz hC.fr)
      unfold effAt
      go_simp
      exact ⟨rfl, hC.keep _ (by rfl)⟩
    simp only [Act.put, List.setIfInBounds_toArray, List.set_cons_zero, List.set_cons_succ]
    apply wpEff2_cons
    focus
      intro B L wz hL hD hC
      refine .inl ⟨by rfl, ?_⟩
      obtain ⟨y0, y1, y2, y3, y4, y5, y6, y7, y8, ys⟩ := hS wz (hF wz hC.fr)
      unfold effAt
      go_simp
      exact ⟨rfl, hC.keep _ (by rfl)⟩
    simp only [Act.put, List.setIfInBounds_toArray, List.set_cons_zero, List.set_cons_succ]
    apply wpEff2_cons
    focus
      intro B L wz hL hD hC
      refine .inl ⟨by rfl, ?_⟩
      obtain ⟨y0, y1, y2, y3, y4, y5, y6, y7, y8, ys⟩ := hS wz (hF wz hC.fr)
      unfold effAt
      go_simp
      exact ⟨rfl, hC.keep _ (by rfl)⟩
    simp only [Act.put, List.setIfInBounds_toArray, List.set_cons_zero, List.set_cons_succ]
    apply wpEff2_cons
    focus
      intro B L wz hL hD hC
      refine .inl ⟨by rfl, ?_⟩
      obtain ⟨y0, y1, y2, y3, y4, y5, y6, y7, y8, ys⟩ := hS wz (hF wz hC.fr)
      unfold effAt
      go_simp
      exact ⟨rfl, hC.keep _ (by rfl)⟩
    simp only [Act.put, List.setIfInBounds_toArray, List.set_cons_zero, List.set_cons_succ]
    apply wpEff2_cons
    focus
      intro B L wz hL hD hC
      refine .inl ⟨by rfl, ?_⟩
      obtain ⟨y0, y1, y2, y3, y4, y5, y6, y7, y8, ys⟩ := hS wz (hF wz hC.fr)
      unfold effAt
      go_simp
      exact ⟨rfl, hC.keep _ (by rfl)⟩
    simp only [Act.put, List.setIfInBounds_toArray, List.set_cons_zero, List.set_cons_succ]
    apply wpEff2_cons
    focus
      intro B L wz hL hD hC
      refine .inl ⟨by rfl, ?_⟩
      obtain ⟨y0, y1, y2, y3, y4, y5, y6, y7, y8, ys⟩ := hS wz (hF wz hC.fr)
      unfold effAt
      go_simp
      exact ⟨rfl, hC.keep _ (by rfl)⟩
    simp only [Act.put, List.setIfInBounds_toArray, List.set_cons_zero, List.set_cons_succ]
    apply wpEff2_cons
    focus
      intro B L wz hL hD hC
      refine .inl ⟨by rfl, ?_⟩
      obtain ⟨y0, y1, y2, y3, y4, y5, y6, y7, y8, ys⟩ := hS wz (hF wz hC.fr)
      unfold effAt
      go_simp
      exact ⟨rfl, hC.keep _ (by rfl)⟩
    simp only [Act.put, List.setIfInBounds_toArray, List.set_cons_zero, List.set_cons_succ]
    refine wpEff2_free (fun b => .slice (some ⟨b.1, 0, none⟩) 3 3) ?_ ?_
    focus
      intro B L wz hL hD hC
      refine .inl ⟨by rfl, ?_⟩
      unfold effAt2
      go_simp
      exact ⟨(wz.heap.size, none), rfl, hC.make 10 3 #[I64 x.err, I64 x.nm.1, I64 x.nm.2] (by intro d hd hk; simp only [List.mem_cons, List.not_mem_nil, or_false] at hd; rcases hd with rfl | rfl <;> first | exact ⟨rfl, rfl⟩ | exact absurd hk (by simp)) (by rfl)⟩
    simp only [Act.put, List.setIfInBounds_toArray, List.set_cons_zero, List.set_cons_succ]
    apply wpEff2_cons
    focus
      intro B L wz hL hD hC
      obtain ⟨F', h1, h2, h3, h4, h5⟩ := hC.call 0 _ rfl hL (hD 10 (by kernel_rfl)) (.inl rfl) (by rfl) (by rfl)
      have hfr := hC.fr
      refine .inl ⟨by rfl, ?_⟩
      unfold effAt
      go_simp
      refine (wk_nums wz F' g _ h1 (B 10).1 3 [x.err, x.nm.1, x.nm.2] #[I64 x.err, I64 x.nm.1, I64 x.nm.2] h2 h3 rfl rfl (by omega) hr3 (by simp [callsB])).mono ?_
      rintro e w9 ⟨rfl, ht⟩
      exact ⟨rfl, h5 _ (ht)⟩
    simp only [Act.put, List.setIfInBounds_toArray, List.set_cons_zero, List.set_cons_succ]
    apply wpEff2_cons
    focus
      intro B L wz hL hD hC
      refine .inl ⟨by rfl, ?_⟩
      obtain ⟨y0, y1, y2, y3, y4, y5, y6, y7, y8, ys⟩ := hS wz (hF wz hC.fr)
      unfold effAt
      go_simp
      exact ⟨rfl, hC.keep _ (by rfl)⟩
    simp only [Act.put, List.setIfInBounds_toArray, List.set_cons_zero, List.set_cons_succ]
    apply wpEff2_cons
    focus
      intro B L wz hL hD hC
      refine .inl ⟨by rfl, ?_⟩
      obtain ⟨y0, y1, y2, y3, y4, y5, y6, y7, y8, ys⟩ := hS wz (hF wz hC.fr)
      unfold effAt
      go_simp
      exact ⟨rfl, hC.keep _ (by rfl)⟩
    simp only [Act.put, List.setIfInBounds_toArray, List.set_cons_zero, List.set_cons_succ]
    apply wpEff2_cons
    focus
      intro B L wz hL hD hC
      refine .inl ⟨by rfl, ?_⟩
      obtain ⟨y0, y1, y2, y3, y4, y5, y6, y7, y8, ys⟩ := hS wz (hF wz hC.fr)
      unfold effAt
      go_simp
      exact ⟨rfl, hC.keep _ (by rfl)⟩
    simp only [Act.put, List.setIfInBounds_toArray, List.set_cons_zero, List.set_cons_succ]
    apply wpEff2_cons
    focus
      intro B L wz hL hD hC
      refine .inl ⟨by rfl, ?_⟩
      obtain ⟨y0, y1, y2, y3, y4, y5, y6, y7, y8, ys⟩ := hS wz (hF wz hC.fr)
      unfold effAt
      go_simp
      exact ⟨rfl, hC.keep _ (by rfl)⟩
    simp only [Act.put, List.setIfInBounds_toArray, List.set_cons_zero, List.set_cons_succ]
    refine wpEff2_free (fun b => .slice (some ⟨b.1, 0, none⟩) 2 2) ?_ ?_
    focus
      intro B L wz hL hD hC
      refine .inl ⟨by rfl, ?_⟩
      unfold effAt2
      go_simp
      exact ⟨(wz.heap.size, none), rfl, hC.make 16 4 #[.bool x.is, .bool x.commit] (by intro d hd hk; simp only [List.mem_cons, List.not_mem_nil, or_false] at hd; rcases hd with rfl | rfl <;> first | exact ⟨rfl, rfl⟩ | exact absurd hk (by simp)) (by rfl)⟩
    simp only [Act.put, List.setIfInBounds_toArray, List.set_cons_zero, List.set_cons_succ]
    apply wpEff2_cons
    focus
      intro B L wz hL hD hC
      obtain ⟨F', h1, h2, h3, h4, h5⟩ := hC.call 1 _ rfl hL (hD 16 (by kernel_rfl)) (.inr ⟨0, _, rfl, rfl, hD 11 (by kernel_rfl)⟩) (by rfl) (by rfl)
      have hfr := hC.fr
      refine .inl ⟨by rfl, ?_⟩
      unfold effAt
      go_simp
      refine (wk_flags wz F' g _ h1 (B 16).1 2 [x.is, x.commit] #[.bool x.is, .bool x.commit] h2 h3 rfl rfl (by omega) (by simp [callsB]; omega)).mono ?_
      rintro e w9 ⟨rfl, ht⟩
      exact ⟨rfl, h5 _ (by simpa using ht)⟩
    simp only [Act.put, List.setIfInBounds_toArray, List.set_cons_zero, List.set_cons_succ]
    refine wpEff2_nil fun B w11 hC5 => ?_
    have st1 := WrTo.trans f1 n1 (hC5.done (by intro d hd; simp only [List.mem_cons, List.not_mem_nil, or_false] at hd; rcases hd with rfl | rfl <;> rfl))
    have M0 : (([] ++ callsB [⟨10, 11, 3, #[I64 x.err, I64 x.nm.1, I64 x.nm.2], encAll [x.err, x.nm.1, x.nm.2]⟩, ⟨16, 17, 4, #[.bool x.is, .bool x.commit], flagB x.is ++ flagB x.commit⟩])).length ≤ 100 := by simp [callsB, flagB]; omega
    clear hC5 hF h1 f1 n1
    obtain ⟨C2, h2, f2, n2⟩ := st1
    obtain ⟨y0, y1, y2, y3, y4, y5, y6, y7, y8, ys⟩ := hS _ f2
    have k2 := oreads_any w11 C2 _ g ([] ++ callsB [⟨10, 11, 3, #[I64 x.err, I64 x.nm.1, I64 x.nm.2], encAll [x.err, x.nm.1, x.nm.2]⟩, ⟨16, 17, 4, #[.bool x.is, .bool x.commit], flagB x.is ++ flagB x.commit⟩]) h2 p.r p.cr x.reads (hi3.reads.fr f2 (fun k hk => by omega)) (hAp w11 C2 f2 n2) (rdgOks_sm hsm.reads.2) hsm.reads.1 (by omega)
    go_upto_region 6 with (go_at_call 41; refine k2.mono ?_; rintro e w12 ⟨rfl, t2⟩)
    have st2 := WrTo.trans f2 n2 t2
    clear k2 y0 y1 y2 y3 y4 y5 y6 y7 y8 ys
    obtain ⟨C5, h5, f5, n5⟩ := st2
    obtain ⟨bs0, hbs0⟩ : ∃ bs0, (([] ++ callsB [⟨10, 11, 3, #[I64 x.err, I64 x.nm.1, I64 x.nm.2], encAll [x.err, x.nm.1, x.nm.2]⟩, ⟨16, 17, 4, #[.bool x.is, .bool x.commit], flagB x.is ++ flagB x.commit⟩]) ++ (enc x.reads.length ++ rdgsB x.reads)) = bs0 := ⟨_, rfl⟩
    rw [hbs0] at h5
    have hb0 : bs0.length ≤ 1000000 := by rw [← hbs0]; rw [List.length_append]; simp only [List.length_append] at M0 ⊢; omega
    have hst := WrD.start (cl := [⟨6, 7, 3, #[I64 x.scheme, I64 x.stage], encAll [x.scheme, x.stage]⟩, ⟨10, 11, 22, #[.slice p.b x.bytes.length p.cb], rowB x.bytes⟩]) (dk := 12) h5 (fun _ => (0, none))
    have hF : ∀ wz, Fr C5 w12 wz → Fr (· = g) W3 wz := fun wz f => f5.trans f n5
    have hby : ∀ wz, Fr C5 w12 wz → Sl wz (fun j => j < w.heap.size ∧ F j) p.b (x.bytes.map B8) := fun wz f => hi3.bytes.fr (hF wz f) (fun k hk => by omega)
    have hap : ∀ wz F', Fr C5 w12 wz → (∀ k, F' k → C5 k ∨ w12.heap.size ≤ k) → Apart wz (fun j => j < w.heap.size ∧ F j) F' := fun wz F' f n => hAp wz F' (hF wz f) (fun k hk => (n k hk).elim (n5 k) (fun h => .inr (Nat.le_trans f5.size h)))
    have hr4 : ∀ z ∈ [x.scheme, x.stage], Right z := by
      have := hsm.scheme
      have := hsm.stage
      intro z hz
      simp only [List.mem_cons, List.not_mem_nil, or_false] at hz
      rcases hz with rfl | rfl <;> exact int_right _ (by omega) (by omega)
    have M1 := encAll_le [x.scheme, x.stage]
    simp only [List.length_cons, List.length_nil] at M1
    have M4 := rowB_most x.bytes
    have M7 := hsm.bytes
    have M8 : (bs0 ++ callsB [⟨6, 7, 3, #[I64 x.scheme, I64 x.stage], encAll [x.scheme, x.stage]⟩, ⟨10, 11, 22, #[.slice p.b x.bytes.length p.cb], rowB x.bytes⟩]).length ≤ 2000000 := by simp [callsB]; omega
    obtain ⟨N, hN⟩ : ∃ N, (bs0 ++ callsB [⟨6, 7, 3, #[I64 x.scheme, I64 x.stage], encAll [x.scheme, x.stage]⟩, ⟨10, 11, 22, #[.slice p.b x.bytes.length p.cb], rowB x.bytes⟩]).length = N := ⟨_, rfl⟩
    have hdn : ∀ wz F', IsWr wz F' g (W8 (bs0 ++ callsB [⟨6, 7, 3, #[I64 x.scheme, I64 x.stage], encAll [x.scheme, x.stage]⟩, ⟨10, 11, 22, #[.slice p.b x.bytes.length p.cb], rowB x.bytes⟩])) → Calls Tryz.prog 44 #[.pointer (some ⟨g, 0, none⟩)] wz fun e w' => ∃ A c, e = .returned (.tuple #[.slice A N c, .int .i64 0]) ∧ Own w' 5 1 A (bs0 ++ callsB [⟨6, 7, 3, #[I64 x.scheme, I64 x.stage], encAll [x.scheme, x.stage]⟩, ⟨10, 11, 22, #[.slice p.b x.bytes.length p.cb], rowB x.bytes⟩]).length c ((bs0 ++ callsB [⟨6, 7, 3, #[I64 x.scheme, I64 x.stage], encAll [x.scheme, x.stage]⟩, ⟨10, 11, 22, #[.slice p.b x.bytes.length p.cb], rowB x.bytes⟩]).map B8) ∧ Nw wz w' ∧ ∀ k, inA A k → wz.heap.size ≤ k := fun wz F' h => by
      have := done_ok wz F' g _ h rfl (Nat.le_trans M8 (by decide))
      rw [← hN]
      exact this
    have HN := Lib.hid hN
    have HB := Lib.hid hbs0
    clear hN
    clear hbs0 L3 L5 L7 L8 her hnm
    refine wp_region_eff2 _ _ (by kernel_rfl) (by kernel_rfl) hst ?_
    clear hst
    apply wpEff2_cons
    focus
      intro B L wz hL hD hC
      refine .inl ⟨by rfl, ?_⟩
      obtain ⟨y0, y1, y2, y3, y4, y5, y6, y7, y8, ys⟩ := hS wz (hF wz hC.fr)
      unfold effAt
      go_simp
      exact ⟨rfl, hC.keep _ (by rfl)⟩
    simp only [Act.put, List.setIfInBounds_toArray, List.set_cons_zero, List.set_cons_succ]
    apply wpEff2_cons
    focus
      intro B L wz hL hD hC
      refine .inl ⟨by rfl, ?_⟩
      obtain ⟨y0, y1, y2, y3, y4, y5, y6, y7, y8, ys⟩ := hS wz (hF wz hC.fr)
      unfold effAt
      go_simp
      exact ⟨rfl, hC.keep _ (by rfl)⟩
    simp only [Act.put, List.setIfInBounds_toArray, List.set_cons_zero, List.set_cons_succ]
    apply wpEff2_cons
    focus
      intro B L wz hL hD hC
      refine .inl ⟨by rfl, ?_⟩
      obtain ⟨y0, y1, y2, y3, y4, y5, y6, y7, y8, ys⟩ := hS wz (hF wz hC.fr)
      unfold effAt
      go_simp
      exact ⟨rfl, hC.keep _ (by rfl)⟩
    simp only [Act.put, List.setIfInBounds_toArray, List.set_cons_zero, List.set_cons_succ]
    apply wpEff2_cons
    focus
      intro B L wz hL hD hC
      refine .inl ⟨by rfl, ?_⟩
      obtain ⟨y0, y1, y2, y3, y4, y5, y6, y7, y8, ys⟩ := hS wz (hF wz hC.fr)
      unfold effAt
      go_simp
      exact ⟨rfl, hC.keep _ (by rfl)⟩
    simp only [Act.put, List.setIfInBounds_toArray, List.set_cons_zero, List.set_cons_succ]
    apply wpEff2_cons
    focus
      intro B L wz hL hD hC
      refine .inl ⟨by rfl, ?_⟩
      obtain ⟨y0, y1, y2, y3, y4, y5, y6, y7, y8, ys⟩ := hS wz (hF wz hC.fr)
      unfold effAt
      go_simp
      exact ⟨rfl, hC.keep _ (by rfl)⟩
    simp only [Act.put, List.setIfInBounds_toArray, List.set_cons_zero, List.set_cons_succ]
    apply wpEff2_cons
    focus
      intro B L wz hL hD hC
      refine .inl ⟨by rfl, ?_⟩
      obtain ⟨y0, y1, y2, y3, y4, y5, y6, y7, y8, ys⟩ := hS wz (hF wz hC.fr)
      unfold effAt
      go_simp
      exact ⟨rfl, hC.keep _ (by rfl)⟩
    simp only [Act.put, List.setIfInBounds_toArray, List.set_cons_zero, List.set_cons_succ]
    refine wpEff2_free (fun b => .slice (some ⟨b.1, 0, none⟩) 2 2) ?_ ?_
    focus
      intro B L wz hL hD hC
      refine .inl ⟨by rfl, ?_⟩
      unfold effAt2
      go_simp
      exact ⟨(wz.heap.size, none), rfl, hC.make 6 3 #[I64 x.scheme, I64 x.stage] (by intro d hd hk; simp only [List.mem_cons, List.not_mem_nil, or_false] at hd; rcases hd with rfl | rfl <;> first | exact ⟨rfl, rfl⟩ | exact absurd hk (by simp)) (by rfl)⟩
    simp only [Act.put, List.setIfInBounds_toArray, List.set_cons_zero, List.set_cons_succ]
    apply wpEff2_cons
    focus
      intro B L wz hL hD hC
      obtain ⟨F', h1, h2, h3, h4, h5⟩ := hC.call 0 _ rfl hL (hD 6 (by kernel_rfl)) (.inl rfl) (by rfl) (by rfl)
      have hfr := hC.fr
      refine .inl ⟨by rfl, ?_⟩
      unfold effAt
      go_simp
      refine (wk_nums wz F' g _ h1 (B 6).1 2 [x.scheme, x.stage] #[I64 x.scheme, I64 x.stage] h2 h3 rfl rfl (by omega) hr4 (by simp only [callsB, List.take_zero, List.map_nil, List.flatten_nil, List.append_nil]; omega)).mono ?_
      rintro e w9 ⟨rfl, ht⟩
      exact ⟨rfl, h5 _ (ht)⟩
    simp only [Act.put, List.setIfInBounds_toArray, List.set_cons_zero, List.set_cons_succ]
    apply wpEff2_cons
    focus
      intro B L wz hL hD hC
      refine .inl ⟨by rfl, ?_⟩
      obtain ⟨y0, y1, y2, y3, y4, y5, y6, y7, y8, ys⟩ := hS wz (hF wz hC.fr)
      unfold effAt
      go_simp
      exact ⟨rfl, hC.keep _ (by rfl)⟩
    simp only [Act.put, List.setIfInBounds_toArray, List.set_cons_zero, List.set_cons_succ]
    apply wpEff2_cons
    focus
      intro B L wz hL hD hC
      refine .inl ⟨by rfl, ?_⟩
      obtain ⟨y0, y1, y2, y3, y4, y5, y6, y7, y8, ys⟩ := hS wz (hF wz hC.fr)
      unfold effAt
      go_simp
      exact ⟨rfl, hC.keep _ (by rfl)⟩
    simp only [Act.put, List.setIfInBounds_toArray, List.set_cons_zero, List.set_cons_succ]
    refine wpEff2_free (fun b => .slice (some ⟨b.1, 0, none⟩) 1 1) ?_ ?_
    focus
      intro B L wz hL hD hC
      refine .inl ⟨by rfl, ?_⟩
      unfold effAt2
      go_simp
      exact ⟨(wz.heap.size, none), rfl, hC.make 10 22 #[.slice p.b x.bytes.length p.cb] (by intro d hd hk; simp only [List.mem_cons, List.not_mem_nil, or_false] at hd; rcases hd with rfl | rfl <;> first | exact ⟨rfl, rfl⟩ | exact absurd hk (by simp)) (by rfl)⟩
    simp only [Act.put, List.setIfInBounds_toArray, List.set_cons_zero, List.set_cons_succ]
    apply wpEff2_cons
    focus
      intro B L wz hL hD hC
      obtain ⟨F', h1, h2, h3, h4, h5⟩ := hC.call 1 _ rfl hL (hD 10 (by kernel_rfl)) (.inr ⟨0, _, rfl, rfl, hD 7 (by kernel_rfl)⟩) (by rfl) (by rfl)
      have hfr := hC.fr
      refine .inl ⟨by rfl, ?_⟩
      unfold effAt
      go_simp
      refine (wk_row wz F' _ g _ h1 (B 10).1 p.b p.cb x.bytes h2 h3 (hby wz hfr) (hap wz F' hfr h4) (by omega) hi3.cb.1 hi3.cb.2 (by simp [callsB]; omega)).mono ?_
      rintro e w9 ⟨rfl, ht⟩
      exact ⟨rfl, h5 _ (ht)⟩
    simp only [Act.put, List.setIfInBounds_toArray, List.set_cons_zero, List.set_cons_succ]
    refine wpEff2_free (fun b => .tuple #[.slice b.2 N b.1, .int .i64 0]) ?_ ?_
    focus
      intro B L wz hL hD hC
      obtain ⟨F', h1, h2⟩ := hC.fin 1 _ rfl rfl (hD 11 (by kernel_rfl)) (by rfl)
      refine .inl ⟨by rfl, ?_⟩
      unfold effAt2
      go_simp
      refine (hdn wz F' h1).mono ?_
      rintro e w9 ⟨A9, c9, rfl, ho9, hf9, hA9⟩
      exact ⟨(c9, A9), rfl, h2 A9 c9 w9 ho9 hf9 hA9⟩
    simp only [Act.put, List.setIfInBounds_toArray, List.set_cons_zero, List.set_cons_succ]
    refine wpEff2_dep (fun B => .slice (B 12).2 N (B 12).1) (fun B B2 h => by have e := h 12 (by kernel_rfl); simp only [e]) ?_ ?_
    focus
      intro B L wz hL hD hC
      refine .inl ⟨by rfl, ?_⟩
      unfold effAt
      go_simp
      exact ⟨rfl, hC.keep _ (by rfl)⟩
    simp only [Act.put, List.setIfInBounds_toArray, List.set_cons_zero, List.set_cons_succ]
    apply wpEff2_cons
    focus
      intro B L wz hL hD hC
      refine .inl ⟨by rfl, ?_⟩
      obtain ⟨y0, y1, y2, y3, y4, y5, y6, y7, y8, ys⟩ := hS wz (hF wz hC.fr)
      unfold effAt
      go_simp
      exact ⟨rfl, hC.keep _ (by rfl)⟩
    simp only [Act.put, List.setIfInBounds_toArray, List.set_cons_zero, List.set_cons_succ]
    refine wpEff2_dep (fun B => .slice (B 12).2 N (B 12).1) (fun B B2 h => by have e := h 12 (by kernel_rfl); simp only [e]) ?_ ?_
    focus
      intro B L wz hL hD hC
      refine .inl ⟨by rfl, ?_⟩
      unfold effAt
      go_simp
      exact ⟨rfl, hC.keep _ (by rfl)⟩
    simp only [Act.put, List.setIfInBounds_toArray, List.set_cons_zero, List.set_cons_succ]
    apply wpEff2_cons
    focus
      intro B L wz hL hD hC
      refine .inl ⟨by rfl, ?_⟩
      obtain ⟨y0, y1, y2, y3, y4, y5, y6, y7, y8, ys⟩ := hS wz (hF wz hC.fr)
      unfold effAt
      go_simp
      exact ⟨rfl, hC.keep _ (by rfl)⟩
    simp only [Act.put, List.setIfInBounds_toArray, List.set_cons_zero, List.set_cons_succ]
    refine wpEff2_nil fun B wz hC5 => ?_
    obtain ⟨ho, hA, hf⟩ := hC5.told rfl
    have e : bs0 ++ callsB [⟨6, 7, 3, #[I64 x.scheme, I64 x.stage], encAll [x.scheme, x.stage]⟩, ⟨10, 11, 22, #[.slice p.b x.bytes.length p.cb], rowB x.bytes⟩] = ansB x := by
      rw [← HB.out]
      simp [callsB, ansB]
    have e2 := HN.out
    rw [e2] at ho
    have HH := Lib.hid (And.intro ho (And.intro hA (And.intro hf (And.intro e e2))))
    clear ho hA hf e e2 hC5
    go_wp2_with fail
    go_ret2
    obtain ⟨ho, hA, hf, e, e2⟩ := HH.out
    rw [e] at e2 ho
    refine ⟨(B 12).2, (B 12).1, by rw [e2]; rfl, by rw [e2]; exact ho, Q3.trans (hF wz hf) (fun k hk => .inr (by omega)), fun k hk => ?_⟩
    have h1 := hA k hk
    have h2 := f5.size
    have h3 := Q3.size
    omega
end Go.Proofs.YtkjnlhidnkbelaaGreatDoor
