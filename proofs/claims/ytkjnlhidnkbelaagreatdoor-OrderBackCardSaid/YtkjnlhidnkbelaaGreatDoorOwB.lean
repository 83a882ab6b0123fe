/- Orders put, by the program. (Printed by genoj.py.) -/
import Derived.Test.YtkjnlhidnkbelaaGreatDoorOdW
import Derived.Test.YtkjnlhidnkbelaaGreatDoorGr7
import Derived.Test.YtkjnlhidnkbelaaGreatDoorOwA
import Derived.Deep.RegionHeld3
namespace Go.Proofs.YtkjnlhidnkbelaaGreatDoor
open Go Go.RowKit
set_option linter.unusedVariables false
set_option linter.unusedSimpArgs false
/-- What 'Put' leaves: the bytes, by themselves, or the error. -/
def PutTo (w : World) (r : Option (List UInt8)) (e : Ending) (w' : World) : Prop :=
  match r with
  | none => e = .returned (.tuple #[.slice none 0 0, .int .i64 2]) ∧ Nw w w'
  | some b => ∃ A c, e = .returned (.tuple #[.slice A b.length c, .int .i64 0]) ∧ Own w' 5 1 A b.length c (b.map B8) ∧ Nw w w' ∧ ∀ k, inA A k → w.heap.size ≤ k
theorem OrdSm.acts_ {x : OrdF} (h : OrdSm x) : ActSm x.acts := fun a ha => by
  obtain ⟨h1, h2, h3, h4⟩ := actOk_sm (h.acts.2 a ha)
  exact ⟨by omega, by omega, by omega, h4⟩
theorem rdgOks_sm {l : List Rdg} (h : ∀ a ∈ l, rdgOk a = true) : RdgSm l := fun a ha => by
  obtain ⟨h1, h2⟩ := rdgOk_len (h a ha)
  exact ⟨by omega, by omega⟩
/-- A writer's state after all that was put. -/
theorem WrTo.begin {w : World} {g : Nat} {s : Wr} (h : IsWr w (· = g) g s) : WrTo w (· = g) g s w := ⟨_, h, Fr.refl _ w, fun k hk => .inl hk⟩
set_option maxRecDepth 100000 in
set_option maxHeartbeats 8000000 in
theorem oput_any (w : World) (F : Nat → Prop) (x : OrdF) (p : Pl) (hi : OrdIn w F x p) (hz : OrdSz x) :
    Calls Tryz.prog 9 #[.agg (ofA (U8V x.kind) x p)] w fun e w' => PutTo w (if ordOk x = true then some (ordB x) else none) e w' := by
  obtain ⟨W0, hW0⟩ : ∃ W0, W0 = w.alloc (.cells (ofA (U8V x.kind) x p) 31) := ⟨_, rfl⟩
  have q0 : Nw w W0 := by rw [hW0]; exact (Fr.refl (fun _ => False) w).alloc _
  have x0 : Blk W0 w.heap.size 31 (ofA (U8V x.kind) x p) := by rw [hW0]; exact Blk.new w _ _
  have hz0 : W0.heap.size = w.heap.size + 1 := by rw [hW0]; simp
  obtain ⟨W1, hW1⟩ : ∃ W1, W1 = W0.alloc (.cells (ofA (U8V x.kind) x p) 31) := ⟨_, rfl⟩
  have q1 : Nw W0 W1 := by rw [hW1]; exact (Fr.refl (fun _ => False) W0).alloc _
  have y1 : Blk W1 (w.heap.size + 1) 31 (ofA (U8V x.kind) x p) := by rw [hW1, ← hz0]; exact Blk.new W0 _ _
  have x1 := x0.fr q1 (fun h => h)
  have q01 := q0.tr q1
  have hcon := oRight_any W1 F (w.heap.size + 1) x p y1 (hi.fr q01 (fun _ _ h => h)) hz
  have HW0 := Lib.hid hW0
  have HW1 := Lib.hid hW1
  clear hW0 hW1 y1
  cases hok : ordOk x with
  | false =>
    rw [hok] at hcon
    rw [if_neg (by simp)]
    clear hok
    go_enter Tryz.func9, Tryz.ntmps9
    go_upto_region 1 with (fail)
    rw [← HW0.out]
    go_wp2_with (first | (refine wpList_load_row rfl 31 _ rfl w.heap.size rfl 31 _ (0, 0) _ x0 Tryz.underlying31 rfl ord_size ?_) | (go_at_call 11; rw [← HW1.out]; refine hcon.mono ?_; rintro e w1 ⟨rfl, q2⟩))
    go_ret2
    exact ⟨rfl, q01.tr q2⟩
  | true =>
    have hsm := ordOk_sm hok
    rw [hok] at hcon
    rw [if_pos rfl]
    clear hok
    go_enter Tryz.func9, Tryz.ntmps9
    go_upto_region 1 with (fail)
    rw [← HW0.out]
    go_upto_region 3 with (first | (refine wpList_load_row rfl 31 _ rfl w.heap.size rfl 31 _ (0, 0) _ x0 Tryz.underlying31 rfl ord_size ?_) | (go_at_call 11; rw [← HW1.out]; refine hcon.mono ?_; rintro e w1 ⟨rfl, q2⟩))
    obtain ⟨g, hg⟩ : ∃ g, g = w1.heap.size := ⟨_, rfl⟩
    have hnw := newWriter_any w1
    rw [← hg] at hnw
    have hgw : w.heap.size < g := by have := q01.size; have := q2.size; have := x1.lt; omega
    have Q1 := q01.tr q2
    have x2 := x1.fr q2 (fun h => h)
    clear hg
    go_upto_region 4 with (go_at_call 37; refine hnw.mono ?_; rintro e w2 ⟨rfl, hw2, q3⟩)
    obtain ⟨W3, hW3⟩ : ∃ W3, W3 = w2.alloc (.cells #[.pointer (some ⟨g, 0, none⟩)] 81) := ⟨_, rfl⟩
    have q4 : Nw w2 W3 := by rw [hW3]; exact (Fr.refl (fun _ => False) w2).alloc _
    have s3 : Blk W3 w2.heap.size 81 #[.pointer (some ⟨g, 0, none⟩)] := by rw [hW3]; exact Blk.new w2 _ _
    have st0 : WrTo W3 (· = g) g (W8 []) W3 := WrTo.begin (hw2.fr q4 (fun _ _ h => h))
    have hgs : g < w2.heap.size := hw2.bound g rfl
    obtain ⟨sb, hsb⟩ : ∃ sb, sb = w2.heap.size := ⟨_, rfl⟩
    have Q3 := (Q1.tr q3).tr q4
    have x3 := (x2.fr q3 (fun h => h)).fr q4 (fun h => h)
    have hi3 : OrdIn W3 (fun j => j < w.heap.size ∧ F j) x p := (hi.mono fun j h1 h2 => ⟨h2, h1⟩).fr Q3 (fun _ _ h => h)
    have hS : ∀ w', Fr (· = g) W3 w' → w'.cell? ⟨w.heap.size, 0, none⟩ = some (U8V x.kind) ∧ w'.cell? ⟨w.heap.size, 1, none⟩ = some (I64 x.nm.1) ∧ w'.cell? ⟨w.heap.size, 2, none⟩ = some (I64 x.nm.2) ∧ w'.cell? ⟨w.heap.size, 3, none⟩ = some (I64 x.epoch) ∧ w'.cell? ⟨w.heap.size, 4, none⟩ = some (.slice p.a x.acts.length p.ca) ∧ w'.cell? ⟨w.heap.size, 5, none⟩ = some (.bool x.commit) ∧ w'.cell? ⟨w.heap.size, 6, none⟩ = some (.slice p.r x.reads.length p.cr) ∧ w'.cell? ⟨w.heap.size, 7, none⟩ = some (I64 x.scheme) ∧ w'.cell? ⟨w.heap.size, 8, none⟩ = some (I64 x.stage) ∧ w'.cell? ⟨w.heap.size, 9, none⟩ = some (I64 x.to) ∧ w'.cell? ⟨w.heap.size, 10, none⟩ = some (StrV x.lo) ∧ w'.cell? ⟨w.heap.size, 11, none⟩ = some (StrV x.hi) ∧ w'.cell? ⟨w.heap.size, 12, none⟩ = some (.slice p.b x.bytes.length p.cb) ∧ w'.cell? ⟨sb, 0, none⟩ = some (.pointer (some ⟨g, 0, none⟩)) := fun w' f => by
      have a := x3.fr f (fun h => by omega)
      have b := s3.fr f (fun h => by omega)
      rw [← hsb] at b
      exact ⟨by simpa using a.cell 0, by simpa using a.cell 1, by simpa using a.cell 2, by simpa using a.cell 3, by simpa using a.cell 4, by simpa using a.cell 5, by simpa using a.cell 6, by simpa using a.cell 7, by simpa using a.cell 8, by simpa using a.cell 9, by simpa using a.cell 10, by simpa using a.cell 11, by simpa using a.cell 12, by simpa using b.cell 0⟩
    have hAp : ∀ wc FC, Fr (· = g) W3 wc → (∀ k, FC k → k = g ∨ W3.heap.size ≤ k) → Apart wc (fun j => j < w.heap.size ∧ F j) FC := fun wc FC f n k hk => by
      have h1 := f.size
      have h2 := Q3.size
      exact ⟨by omega, fun hF => (n k hF).elim (fun h => by omega) (fun h => by omega)⟩
    have HW3 := Lib.hid hW3
    rw [← HW3.out, ← hsb]
    clear hW3 hsb s3 x0 x1 x2 hi hcon
    have hcv : IntKind.i64.wrap x.kind = x.kind := IntWalk.i64_in _ (by have := hz.kind; omega)
    have L1 := encAll_le [x.kind, x.nm.1, x.nm.2, x.epoch]
    have L2 := acts_most x.acts hsm.acts_
    have L3 := rdgs_most x.reads (rdgOks_sm hsm.reads.2)
    have L4 := hsm.acts.1
    have L5 := hsm.reads.1
    have L6 := enc_len x.acts.length
    have L7 := enc_len x.reads.length
    have hk := hsm.kind
    have hnm := hsm.nm
    have hep := hsm.epoch
    simp only [List.length_cons, List.length_nil] at L1
    obtain ⟨C1, h1, f1, n1⟩ := st0
    obtain ⟨y0, y1, y2, y3, y4, y5, y6, y7, y8, y9, y10, y11, y12, ys⟩ := hS _ f1
    have k1 := wk_nums (W3.alloc (.cells #[I64 x.kind, I64 x.nm.1, I64 x.nm.2, I64 x.epoch] 3)) C1 g [] (h1.alloc _) W3.heap.size 4 [x.kind, x.nm.1, x.nm.2, x.epoch] #[I64 x.kind, I64 x.nm.1, I64 x.nm.2, I64 x.epoch] (Blk.new W3 3 _) (fun hF => by have := h1.bound _ hF; omega) rfl rfl (by omega) (by intro z hz; simp only [List.mem_cons, List.not_mem_nil, or_false] at hz; rcases hz with rfl | rfl | rfl | rfl <;> exact int_right _ (by omega) (by omega)) (by simp)
    go_upto_region 5 with (go_at_call 38; refine k1.mono ?_; rintro e w11 ⟨rfl, t1⟩)
    have st1 := WrTo.trans f1 n1 (WrTo.alloc t1)
    clear k1 y0 y1 y2 y3 y4 y5 y6 y7 y8 y9 y10 y11 y12 ys
    obtain ⟨C2, h2, f2, n2⟩ := st1
    obtain ⟨y0, y1, y2, y3, y4, y5, y6, y7, y8, y9, y10, y11, y12, ys⟩ := hS _ f2
    have k2 := oacts_any w11 C2 _ g ([] ++ encAll [x.kind, x.nm.1, x.nm.2, x.epoch]) h2 p.a p.ca x.acts (hi3.acts.fr f2 (fun k hk => by omega)) (hAp w11 C2 f2 n2) hsm.acts_ hsm.acts.1 (by simp only [List.length_append, List.length_nil]; omega)
    go_upto_region 6 with (go_at_call 39; refine k2.mono ?_; rintro e w12 ⟨rfl, t2⟩)
    have st2 := WrTo.trans f2 n2 t2
    clear k2 y0 y1 y2 y3 y4 y5 y6 y7 y8 y9 y10 y11 y12 ys
    obtain ⟨C3, h3, f3, n3⟩ := st2
    obtain ⟨y0, y1, y2, y3, y4, y5, y6, y7, y8, y9, y10, y11, y12, ys⟩ := hS _ f3
    have k3 := wk_flags (w12.alloc (.cells #[.bool x.commit] 4)) C3 g (([] ++ encAll [x.kind, x.nm.1, x.nm.2, x.epoch]) ++ (enc x.acts.length ++ actsB x.acts)) (h3.alloc _) w12.heap.size 1 [x.commit] #[.bool x.commit] (Blk.new w12 4 _) (fun hF => by have := h3.bound _ hF; omega) rfl rfl (by omega) (by simp only [List.length_append, List.length_nil]; omega)
    go_upto_region 7 with (go_at_call 40; refine k3.mono ?_; rintro e w13 ⟨rfl, t3⟩)
    have st3 := WrTo.trans f3 n3 (WrTo.alloc t3)
    clear k3 y0 y1 y2 y3 y4 y5 y6 y7 y8 y9 y10 y11 y12 ys
    obtain ⟨C4, h4, f4, n4⟩ := st3
    obtain ⟨y0, y1, y2, y3, y4, y5, y6, y7, y8, y9, y10, y11, y12, ys⟩ := hS _ f4
    have k4 := oreads_any w13 C4 _ g ((([] ++ encAll [x.kind, x.nm.1, x.nm.2, x.epoch]) ++ (enc x.acts.length ++ actsB x.acts)) ++ ([x.commit].map flagB).flatten) h4 p.r p.cr x.reads (hi3.reads.fr f4 (fun k hk => by omega)) (hAp w13 C4 f4 n4) (rdgOks_sm hsm.reads.2) hsm.reads.1 (by simp only [List.map_cons, List.map_nil, List.flatten_cons, List.flatten_nil, flagB, List.length_append, List.length_nil, List.length_cons]; omega)
    go_upto_region 8 with (go_at_call 41; refine k4.mono ?_; rintro e w14 ⟨rfl, t4⟩)
    have st4 := WrTo.trans f4 n4 t4
    clear k4 y0 y1 y2 y3 y4 y5 y6 y7 y8 y9 y10 y11 y12 ys
    obtain ⟨C5, h5, f5, n5⟩ := st4
    obtain ⟨bs0, hbs0⟩ : ∃ bs0, (((([] ++ encAll [x.kind, x.nm.1, x.nm.2, x.epoch]) ++ (enc x.acts.length ++ actsB x.acts)) ++ ([x.commit].map flagB).flatten) ++ (enc x.reads.length ++ rdgsB x.reads)) = bs0 := ⟨_, rfl⟩
    rw [hbs0] at h5
    have hb0 : bs0.length ≤ 1000000 := by rw [← hbs0]; simp only [List.map_cons, List.map_nil, List.flatten_cons, List.flatten_nil, flagB, List.length_append, List.length_nil, List.length_cons]; omega
    have hst := WrD.start (cl := [⟨8, 9, 3, #[I64 x.scheme, I64 x.stage, I64 x.to], encAll [x.scheme, x.stage, x.to]⟩, ⟨16, 17, 9, #[StrV x.lo, StrV x.hi], rowB x.lo ++ rowB x.hi⟩, ⟨20, 21, 22, #[.slice p.b x.bytes.length p.cb], rowB x.bytes⟩]) (dk := 22) h5 (fun _ => (0, none))
    have hF : ∀ wz, Fr C5 w14 wz → Fr (· = g) W3 wz := fun wz f => f5.trans f n5
    have hby : ∀ wz, Fr C5 w14 wz → Sl wz (fun j => j < w.heap.size ∧ F j) p.b (x.bytes.map B8) := fun wz f => hi3.bytes.fr (hF wz f) (fun k hk => by omega)
    have hap : ∀ wz F', Fr C5 w14 wz → (∀ k, F' k → C5 k ∨ w14.heap.size ≤ k) → Apart wz (fun j => j < w.heap.size ∧ F j) F' := fun wz F' f n => hAp wz F' (hF wz f) (fun k hk => (n k hk).elim (n5 k) (fun h => .inr (Nat.le_trans f5.size h)))
    have hr3 : ∀ z ∈ [x.scheme, x.stage, x.to], Right z := by
      have := hsm.scheme
      have := hsm.stage
      have := hsm.to
      intro z hz
      simp only [List.mem_cons, List.not_mem_nil, or_false] at hz
      rcases hz with rfl | rfl | rfl <;> exact int_right _ (by omega) (by omega)
    have hr4 : ∀ s ∈ [x.lo, x.hi], s.length ≤ 1000 := by
      have := hsm.lo
      have := hsm.hi
      intro z hz
      simp only [List.mem_cons, List.not_mem_nil, or_false] at hz
      rcases hz with rfl | rfl <;> omega
    have M1 := encAll_le [x.scheme, x.stage, x.to]
    simp only [List.length_cons, List.length_nil] at M1
    have M2 := rowB_most x.lo
    have M3 := rowB_most x.hi
    have M4 := rowB_most x.bytes
    have M5 := hsm.lo
    have M6 := hsm.hi
    have M7 := hsm.bytes
    have M8 : (bs0 ++ callsB [⟨8, 9, 3, #[I64 x.scheme, I64 x.stage, I64 x.to], encAll [x.scheme, x.stage, x.to]⟩, ⟨16, 17, 9, #[StrV x.lo, StrV x.hi], rowB x.lo ++ rowB x.hi⟩, ⟨20, 21, 22, #[.slice p.b x.bytes.length p.cb], rowB x.bytes⟩]).length ≤ 2000000 := by simp [callsB]; omega
    obtain ⟨N, hN⟩ : ∃ N, (bs0 ++ callsB [⟨8, 9, 3, #[I64 x.scheme, I64 x.stage, I64 x.to], encAll [x.scheme, x.stage, x.to]⟩, ⟨16, 17, 9, #[StrV x.lo, StrV x.hi], rowB x.lo ++ rowB x.hi⟩, ⟨20, 21, 22, #[.slice p.b x.bytes.length p.cb], rowB x.bytes⟩]).length = N := ⟨_, rfl⟩
    have hdn : ∀ wz F', IsWr wz F' g (W8 (bs0 ++ callsB [⟨8, 9, 3, #[I64 x.scheme, I64 x.stage, I64 x.to], encAll [x.scheme, x.stage, x.to]⟩, ⟨16, 17, 9, #[StrV x.lo, StrV x.hi], rowB x.lo ++ rowB x.hi⟩, ⟨20, 21, 22, #[.slice p.b x.bytes.length p.cb], rowB x.bytes⟩])) → Calls Tryz.prog 44 #[.pointer (some ⟨g, 0, none⟩)] wz fun e w' => ∃ A c, e = .returned (.tuple #[.slice A N c, .int .i64 0]) ∧ Own w' 5 1 A (bs0 ++ callsB [⟨8, 9, 3, #[I64 x.scheme, I64 x.stage, I64 x.to], encAll [x.scheme, x.stage, x.to]⟩, ⟨16, 17, 9, #[StrV x.lo, StrV x.hi], rowB x.lo ++ rowB x.hi⟩, ⟨20, 21, 22, #[.slice p.b x.bytes.length p.cb], rowB x.bytes⟩]).length c ((bs0 ++ callsB [⟨8, 9, 3, #[I64 x.scheme, I64 x.stage, I64 x.to], encAll [x.scheme, x.stage, x.to]⟩, ⟨16, 17, 9, #[StrV x.lo, StrV x.hi], rowB x.lo ++ rowB x.hi⟩, ⟨20, 21, 22, #[.slice p.b x.bytes.length p.cb], rowB x.bytes⟩]).map B8) ∧ Nw wz w' ∧ ∀ k, inA A k → wz.heap.size ≤ k := fun wz F' h => by
      have := done_ok wz F' g _ h rfl (Nat.le_trans M8 (by decide))
      rw [← hN]
      exact this
    have HN := Lib.hid hN
    have HB := Lib.hid hbs0
    clear hN
    clear hbs0 L1 L2 L3 L4 L5 L6 L7 hep hnm hk
    refine wp_region_eff2 _ _ (by kernel_rfl) (by kernel_rfl) hst ?_
    clear hst
    apply wpEff2_cons
    focus
      intro B L wz hL hD hC
      refine .inl ⟨by rfl, ?_⟩
      obtain ⟨y0, y1, y2, y3, y4, y5, y6, y7, y8, y9, y10, y11, y12, ys⟩ := hS wz (hF wz hC.fr)
      unfold effAt
      go_simp
      exact ⟨rfl, hC.keep _ (by rfl)⟩
    simp only [Act.put, List.setIfInBounds_toArray, List.set_cons_zero, List.set_cons_succ]
    apply wpEff2_cons
    focus
      intro B L wz hL hD hC
      refine .inl ⟨by rfl, ?_⟩
      obtain ⟨y0, y1, y2, y3, y4, y5, y6, y7, y8, y9, y10, y11, y12, ys⟩ := hS wz (hF wz hC.fr)
      unfold effAt
      go_simp
      exact ⟨rfl, hC.keep _ (by rfl)⟩
    simp only [Act.put, List.setIfInBounds_toArray, List.set_cons_zero, List.set_cons_succ]
    apply wpEff2_cons
    focus
      intro B L wz hL hD hC
      refine .inl ⟨by rfl, ?_⟩
      obtain ⟨y0, y1, y2, y3, y4, y5, y6, y7, y8, y9, y10, y11, y12, ys⟩ := hS wz (hF wz hC.fr)
      unfold effAt
      go_simp
      exact ⟨rfl, hC.keep _ (by rfl)⟩
    simp only [Act.put, List.setIfInBounds_toArray, List.set_cons_zero, List.set_cons_succ]
    apply wpEff2_cons
    focus
      intro B L wz hL hD hC
      refine .inl ⟨by rfl, ?_⟩
      obtain ⟨y0, y1, y2, y3, y4, y5, y6, y7, y8, y9, y10, y11, y12, ys⟩ := hS wz (hF wz hC.fr)
      unfold effAt
      go_simp
      exact ⟨rfl, hC.keep _ (by rfl)⟩
    simp only [Act.put, List.setIfInBounds_toArray, List.set_cons_zero, List.set_cons_succ]
    apply wpEff2_cons
    focus
      intro B L wz hL hD hC
      refine .inl ⟨by rfl, ?_⟩
      obtain ⟨y0, y1, y2, y3, y4, y5, y6, y7, y8, y9, y10, y11, y12, ys⟩ := hS wz (hF wz hC.fr)
      unfold effAt
      go_simp
      exact ⟨rfl, hC.keep _ (by rfl)⟩
    simp only [Act.put, List.setIfInBounds_toArray, List.set_cons_zero, List.set_cons_succ]
    apply wpEff2_cons
    focus
      intro B L wz hL hD hC
      refine .inl ⟨by rfl, ?_⟩
      obtain ⟨y0, y1, y2, y3, y4, y5, y6, y7, y8, y9, y10, y11, y12, ys⟩ := hS wz (hF wz hC.fr)
      unfold effAt
      go_simp
      exact ⟨rfl, hC.keep _ (by rfl)⟩
    simp only [Act.put, List.setIfInBounds_toArray, List.set_cons_zero, List.set_cons_succ]
    apply wpEff2_cons
    focus
      intro B L wz hL hD hC
      refine .inl ⟨by rfl, ?_⟩
      obtain ⟨y0, y1, y2, y3, y4, y5, y6, y7, y8, y9, y10, y11, y12, ys⟩ := hS wz (hF wz hC.fr)
      unfold effAt
      go_simp
      exact ⟨rfl, hC.keep _ (by rfl)⟩
    simp only [Act.put, List.setIfInBounds_toArray, List.set_cons_zero, List.set_cons_succ]
    apply wpEff2_cons
    focus
      intro B L wz hL hD hC
      refine .inl ⟨by rfl, ?_⟩
      obtain ⟨y0, y1, y2, y3, y4, y5, y6, y7, y8, y9, y10, y11, y12, ys⟩ := hS wz (hF wz hC.fr)
      unfold effAt
      go_simp
      exact ⟨rfl, hC.keep _ (by rfl)⟩
    simp only [Act.put, List.setIfInBounds_toArray, List.set_cons_zero, List.set_cons_succ]
    refine wpEff2_free (fun b => .slice (some ⟨b.1, 0, none⟩) 3 3) ?_ ?_
    focus
      intro B L wz hL hD hC
      refine .inl ⟨by rfl, ?_⟩
      unfold effAt2
      go_simp
      exact ⟨(wz.heap.size, none), rfl, hC.make 8 3 #[I64 x.scheme, I64 x.stage, I64 x.to] (by intro d hd hk; simp only [List.mem_cons, List.not_mem_nil, or_false] at hd; rcases hd with rfl | rfl | rfl <;> first | exact ⟨rfl, rfl⟩ | exact absurd hk (by simp)) (by rfl)⟩
    simp only [Act.put, List.setIfInBounds_toArray, List.set_cons_zero, List.set_cons_succ]
    apply wpEff2_cons
    focus
      intro B L wz hL hD hC
      obtain ⟨F', h1, h2, h3, h4, h5⟩ := hC.call 0 _ rfl hL (hD 8 (by kernel_rfl)) (.inl rfl) (by rfl) (by rfl)
      have hfr := hC.fr
      refine .inl ⟨by rfl, ?_⟩
      unfold effAt
      go_simp
      refine (wk_nums wz F' g _ h1 (B 8).1 3 [x.scheme, x.stage, x.to] #[I64 x.scheme, I64 x.stage, I64 x.to] h2 h3 rfl rfl (by omega) hr3 (by simp only [callsB, List.take_zero, List.map_nil, List.flatten_nil, List.append_nil]; omega)).mono ?_
      rintro e w9 ⟨rfl, ht⟩
      exact ⟨rfl, h5 _ (ht)⟩
    simp only [Act.put, List.setIfInBounds_toArray, List.set_cons_zero, List.set_cons_succ]
    apply wpEff2_cons
    focus
      intro B L wz hL hD hC
      refine .inl ⟨by rfl, ?_⟩
      obtain ⟨y0, y1, y2, y3, y4, y5, y6, y7, y8, y9, y10, y11, y12, ys⟩ := hS wz (hF wz hC.fr)
      unfold effAt
      go_simp
      exact ⟨rfl, hC.keep _ (by rfl)⟩
    simp only [Act.put, List.setIfInBounds_toArray, List.set_cons_zero, List.set_cons_succ]
    apply wpEff2_cons
    focus
      intro B L wz hL hD hC
      refine .inl ⟨by rfl, ?_⟩
      obtain ⟨y0, y1, y2, y3, y4, y5, y6, y7, y8, y9, y10, y11, y12, ys⟩ := hS wz (hF wz hC.fr)
      unfold effAt
      go_simp
      exact ⟨rfl, hC.keep _ (by rfl)⟩
    simp only [Act.put, List.setIfInBounds_toArray, List.set_cons_zero, List.set_cons_succ]
    apply wpEff2_cons
    focus
      intro B L wz hL hD hC
      refine .inl ⟨by rfl, ?_⟩
      obtain ⟨y0, y1, y2, y3, y4, y5, y6, y7, y8, y9, y10, y11, y12, ys⟩ := hS wz (hF wz hC.fr)
      unfold effAt
      go_simp
      exact ⟨rfl, hC.keep _ (by rfl)⟩
    simp only [Act.put, List.setIfInBounds_toArray, List.set_cons_zero, List.set_cons_succ]
    apply wpEff2_cons
    focus
      intro B L wz hL hD hC
      refine .inl ⟨by rfl, ?_⟩
      obtain ⟨y0, y1, y2, y3, y4, y5, y6, y7, y8, y9, y10, y11, y12, ys⟩ := hS wz (hF wz hC.fr)
      unfold effAt
      go_simp
      exact ⟨rfl, hC.keep _ (by rfl)⟩
    simp only [Act.put, List.setIfInBounds_toArray, List.set_cons_zero, List.set_cons_succ]
    apply wpEff2_cons
    focus
      intro B L wz hL hD hC
      refine .inl ⟨by rfl, ?_⟩
      obtain ⟨y0, y1, y2, y3, y4, y5, y6, y7, y8, y9, y10, y11, y12, ys⟩ := hS wz (hF wz hC.fr)
      unfold effAt
      go_simp
      exact ⟨rfl, hC.keep _ (by rfl)⟩
    simp only [Act.put, List.setIfInBounds_toArray, List.set_cons_zero, List.set_cons_succ]
    apply wpEff2_cons
    focus
      intro B L wz hL hD hC
      refine .inl ⟨by rfl, ?_⟩
      obtain ⟨y0, y1, y2, y3, y4, y5, y6, y7, y8, y9, y10, y11, y12, ys⟩ := hS wz (hF wz hC.fr)
      unfold effAt
      go_simp
      exact ⟨rfl, hC.keep _ (by rfl)⟩
    simp only [Act.put, List.setIfInBounds_toArray, List.set_cons_zero, List.set_cons_succ]
    refine wpEff2_free (fun b => .slice (some ⟨b.1, 0, none⟩) 2 2) ?_ ?_
    focus
      intro B L wz hL hD hC
      refine .inl ⟨by rfl, ?_⟩
      unfold effAt2
      go_simp
      exact ⟨(wz.heap.size, none), rfl, hC.make 16 9 #[StrV x.lo, StrV x.hi] (by intro d hd hk; simp only [List.mem_cons, List.not_mem_nil, or_false] at hd; rcases hd with rfl | rfl | rfl <;> first | exact ⟨rfl, rfl⟩ | exact absurd hk (by simp)) (by rfl)⟩
    simp only [Act.put, List.setIfInBounds_toArray, List.set_cons_zero, List.set_cons_succ]
    apply wpEff2_cons
    focus
      intro B L wz hL hD hC
      obtain ⟨F', h1, h2, h3, h4, h5⟩ := hC.call 1 _ rfl hL (hD 16 (by kernel_rfl)) (.inr ⟨0, _, rfl, rfl, hD 9 (by kernel_rfl)⟩) (by rfl) (by rfl)
      have hfr := hC.fr
      refine .inl ⟨by rfl, ?_⟩
      unfold effAt
      go_simp
      refine (wk_texts wz F' g _ h1 (B 16).1 2 [x.lo, x.hi] #[StrV x.lo, StrV x.hi] h2 h3 rfl rfl (by omega) hr4 (by simp [callsB]; omega)).mono ?_
      rintro e w9 ⟨rfl, ht⟩
      exact ⟨rfl, h5 _ (by simpa using ht)⟩
    simp only [Act.put, List.setIfInBounds_toArray, List.set_cons_zero, List.set_cons_succ]
    apply wpEff2_cons
    focus
      intro B L wz hL hD hC
      refine .inl ⟨by rfl, ?_⟩
      obtain ⟨y0, y1, y2, y3, y4, y5, y6, y7, y8, y9, y10, y11, y12, ys⟩ := hS wz (hF wz hC.fr)
      unfold effAt
      go_simp
      exact ⟨rfl, hC.keep _ (by rfl)⟩
    simp only [Act.put, List.setIfInBounds_toArray, List.set_cons_zero, List.set_cons_succ]
    apply wpEff2_cons
    focus
      intro B L wz hL hD hC
      refine .inl ⟨by rfl, ?_⟩
      obtain ⟨y0, y1, y2, y3, y4, y5, y6, y7, y8, y9, y10, y11, y12, ys⟩ := hS wz (hF wz hC.fr)
      unfold effAt
      go_simp
      exact ⟨rfl, hC.keep _ (by rfl)⟩
    simp only [Act.put, List.setIfInBounds_toArray, List.set_cons_zero, List.set_cons_succ]
    refine wpEff2_free (fun b => .slice (some ⟨b.1, 0, none⟩) 1 1) ?_ ?_
    focus
      intro B L wz hL hD hC
      refine .inl ⟨by rfl, ?_⟩
      unfold effAt2
      go_simp
      exact ⟨(wz.heap.size, none), rfl, hC.make 20 22 #[.slice p.b x.bytes.length p.cb] (by intro d hd hk; simp only [List.mem_cons, List.not_mem_nil, or_false] at hd; rcases hd with rfl | rfl | rfl <;> first | exact ⟨rfl, rfl⟩ | exact absurd hk (by simp)) (by rfl)⟩
    simp only [Act.put, List.setIfInBounds_toArray, List.set_cons_zero, List.set_cons_succ]
    apply wpEff2_cons
    focus
      intro B L wz hL hD hC
      obtain ⟨F', h1, h2, h3, h4, h5⟩ := hC.call 2 _ rfl hL (hD 20 (by kernel_rfl)) (.inr ⟨1, _, rfl, rfl, hD 17 (by kernel_rfl)⟩) (by rfl) (by rfl)
      have hfr := hC.fr
      refine .inl ⟨by rfl, ?_⟩
      unfold effAt
      go_simp
      refine (wk_row wz F' _ g _ h1 (B 20).1 p.b p.cb x.bytes h2 h3 (hby wz hfr) (hap wz F' hfr h4) (by omega) hi3.cb.1 hi3.cb.2 (by simp [callsB]; omega)).mono ?_
      rintro e w9 ⟨rfl, ht⟩
      exact ⟨rfl, h5 _ (ht)⟩
    simp only [Act.put, List.setIfInBounds_toArray, List.set_cons_zero, List.set_cons_succ]
    refine wpEff2_free (fun b => .tuple #[.slice b.2 N b.1, .int .i64 0]) ?_ ?_
    focus
      intro B L wz hL hD hC
      obtain ⟨F', h1, h2⟩ := hC.fin 2 _ rfl rfl (hD 21 (by kernel_rfl)) (by rfl)
      refine .inl ⟨by rfl, ?_⟩
      unfold effAt2
      go_simp
      refine (hdn wz F' h1).mono ?_
      rintro e w9 ⟨A9, c9, rfl, ho9, hf9, hA9⟩
      exact ⟨(c9, A9), rfl, h2 A9 c9 w9 ho9 hf9 hA9⟩
    simp only [Act.put, List.setIfInBounds_toArray, List.set_cons_zero, List.set_cons_succ]
    refine wpEff2_dep (fun B => .slice (B 22).2 N (B 22).1) (fun B B2 h => by have e := h 22 (by kernel_rfl); simp only [e]) ?_ ?_
    focus
      intro B L wz hL hD hC
      refine .inl ⟨by rfl, ?_⟩
      unfold effAt
      go_simp
      exact ⟨rfl, hC.keep _ (by rfl)⟩
    simp only [Act.put, List.setIfInBounds_toArray, List.set_cons_zero, List.set_cons_succ]
    apply wpEff2_cons
    focus
      intro B L wz hL hD hC
      refine .inl ⟨by rfl, ?_⟩
      obtain ⟨y0, y1, y2, y3, y4, y5, y6, y7, y8, y9, y10, y11, y12, ys⟩ := hS wz (hF wz hC.fr)
      unfold effAt
      go_simp
      exact ⟨rfl, hC.keep _ (by rfl)⟩
    simp only [Act.put, List.setIfInBounds_toArray, List.set_cons_zero, List.set_cons_succ]
    refine wpEff2_dep (fun B => .slice (B 22).2 N (B 22).1) (fun B B2 h => by have e := h 22 (by kernel_rfl); simp only [e]) ?_ ?_
    focus
      intro B L wz hL hD hC
      refine .inl ⟨by rfl, ?_⟩
      unfold effAt
      go_simp
      exact ⟨rfl, hC.keep _ (by rfl)⟩
    simp only [Act.put, List.setIfInBounds_toArray, List.set_cons_zero, List.set_cons_succ]
    apply wpEff2_cons
    focus
      intro B L wz hL hD hC
      refine .inl ⟨by rfl, ?_⟩
      obtain ⟨y0, y1, y2, y3, y4, y5, y6, y7, y8, y9, y10, y11, y12, ys⟩ := hS wz (hF wz hC.fr)
      unfold effAt
      go_simp
      exact ⟨rfl, hC.keep _ (by rfl)⟩
    simp only [Act.put, List.setIfInBounds_toArray, List.set_cons_zero, List.set_cons_succ]
    refine wpEff2_nil fun B wz hC5 => ?_
    obtain ⟨ho, hA, hf⟩ := hC5.told rfl
    have e : bs0 ++ callsB [⟨8, 9, 3, #[I64 x.scheme, I64 x.stage, I64 x.to], encAll [x.scheme, x.stage, x.to]⟩, ⟨16, 17, 9, #[StrV x.lo, StrV x.hi], rowB x.lo ++ rowB x.hi⟩, ⟨20, 21, 22, #[.slice p.b x.bytes.length p.cb], rowB x.bytes⟩] = ordB x := by
      rw [← HB.out]
      simp [callsB, ordB]
    have e2 := HN.out
    rw [e2] at ho
    have HH := Lib.hid (And.intro ho (And.intro hA (And.intro hf (And.intro e e2))))
    clear ho hA hf e e2 hC5
    go_wp2_with fail
    go_ret2
    obtain ⟨ho, hA, hf, e, e2⟩ := HH.out
    rw [e] at e2 ho
    refine ⟨(B 22).2, (B 22).1, by rw [e2]; rfl, by rw [e2]; exact ho, Q3.trans (hF wz hf) (fun k hk => .inr (by omega)), fun k hk => ?_⟩
    have h1 := hA k hk
    have h2 := f5.size
    have h3 := Q3.size
    omega
end Go.Proofs.YtkjnlhidnkbelaaGreatDoor
