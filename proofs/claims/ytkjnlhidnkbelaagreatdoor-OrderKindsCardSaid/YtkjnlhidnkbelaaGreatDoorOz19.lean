/- Lemmas of the walks: OwB, OwC, OfE. (Laid together by shake.py.) -/
import Derived.Deep.RegionHeld3
import Derived.Deep.QuietTactic
import Derived.Test.YtkjnlhidnkbelaaGreatDoorOz03
import Derived.Test.YtkjnlhidnkbelaaGreatDoorOz10
import Derived.Test.YtkjnlhidnkbelaaGreatDoorOz14
import Derived.Test.YtkjnlhidnkbelaaGreatDoorOz16
set_option linter.unusedVariables false
set_option linter.unusedSimpArgs false
namespace Go.Proofs.YtkjnlhidnkbelaaGreatDoor
open Go Go.RowKit
set_option linter.unusedVariables false
set_option linter.unusedSimpArgs false
/-- What 'Put' leaves: the bytes, by themselves, or the error. -/
def PutTo (w : World) (r : Option (List UInt8)) (e : Ending) (w' : World) : Prop :=
  match r with
  | none => e = .returned (.tuple #[.slice none 0 0, .int .i64 2]) ∧ Nw w w'
  | some b => ∃ A c, e = .returned (.tuple #[.slice A b.length c, .int .i64 0]) ∧ Own w' 5 1 A b.length c (b.map B8) ∧ Nw w w' ∧ ∀ k, inA A k → w.heap.size ≤ k
theorem OrdSm.acts_ {x : OrdF} (h : OrdSm x) : ActSm x.acts := fun a ha => by
  obtain ⟨h1, h2, h3, h4⟩ := actOk_sm (h.acts.2 a ha)
  exact ⟨by omega, by omega, by omega, h4⟩
theorem rdgOks_sm {l : List Rdg} (h : ∀ a ∈ l, rdgOk a = true) : RdgSm l := fun a ha => by
  obtain ⟨h1, h2⟩ := rdgOk_len (h a ha)
  exact ⟨by omega, by omega⟩
/-- A writer's state after all that was put. -/
theorem WrTo.begin {w : World} {g : Nat} {s : Wr} (h : IsWr w (· = g) g s) : WrTo w (· = g) g s w := ⟨_, h, Fr.refl _ w, fun k hk => .inl hk⟩
set_option maxRecDepth 100000 in
set_option maxHeartbeats 8000000 in
theorem oput_any (w : World) (F : Nat → Prop) (x : OrdF) (p : Pl) (hi : OrdIn w F x p) (hz : OrdSz x) :
    Calls Tryz.prog 9 #[.agg (ofA (U8V x.kind) x p)] w fun e w' => PutTo w (if ordOk x = true then some (ordB x) else none) e w' := by
  obtain ⟨W0, hW0⟩ : ∃ W0, W0 = w.alloc (.cells (ofA (U8V x.kind) x p) 31) := ⟨_, rfl⟩
  have q0 : Nw w W0 := by rw [hW0]; exact (Fr.refl (fun _ => False) w).alloc _
  have x0 : Blk W0 w.heap.size 31 (ofA (U8V x.kind) x p) := by rw [hW0]; exact Blk.new w _ _
  have hz0 : W0.heap.size = w.heap.size + 1 := by rw [hW0]; simp
  obtain ⟨W1, hW1⟩ : ∃ W1, W1 = W0.alloc (.cells (ofA (U8V x.kind) x p) 31) := ⟨_, rfl⟩
  have q1 : Nw W0 W1 := by rw [hW1]; exact (Fr.refl (fun _ => False) W0).alloc _
  have y1 : Blk W1 (w.heap.size + 1) 31 (ofA (U8V x.kind) x p) := by rw [hW1, ← hz0]; exact Blk.new W0 _ _
  have x1 := x0.fr q1 (fun h => h)
  have q01 := q0.tr q1
  have hcon := oRight_any W1 F (w.heap.size + 1) x p y1 (hi.fr q01 (fun _ _ h => h)) hz
  have HW0 := Lib.hid hW0
  have HW1 := Lib.hid hW1
  clear hW0 hW1 y1
  cases hok : ordOk x with
  | false =>
    rw [hok] at hcon
    rw [if_neg (by simp)]
    clear hok
    go_enter Tryz.func9, Tryz.ntmps9
    go_upto_region 1 with (fail)
    rw [← HW0.out]
    go_wp2_with (first | (refine wpList_load_row rfl 31 _ rfl w.heap.size rfl 31 _ (0, 0) _ x0 Tryz.underlying31 rfl ord_size ?_) | (go_at_call 11; rw [← HW1.out]; refine hcon.mono ?_; rintro e w1 ⟨rfl, q2⟩))
    go_ret2
    exact ⟨rfl, q01.tr q2⟩
  | true =>
    have hsm := ordOk_sm hok
    rw [hok] at hcon
    rw [if_pos rfl]
    clear hok
    go_enter Tryz.func9, Tryz.ntmps9
    go_upto_region 1 with (fail)
    rw [← HW0.out]
    go_upto_region 3 with (first | (refine wpList_load_row rfl 31 _ rfl w.heap.size rfl 31 _ (0, 0) _ x0 Tryz.underlying31 rfl ord_size ?_) | (go_at_call 11; rw [← HW1.out]; refine hcon.mono ?_; rintro e w1 ⟨rfl, q2⟩))
    obtain ⟨g, hg⟩ : ∃ g, g = w1.heap.size := ⟨_, rfl⟩
    have hnw := newWriter_any w1
    rw [← hg] at hnw
    have hgw : w.heap.size < g := by have := q01.size; have := q2.size; have := x1.lt; omega
    have Q1 := q01.tr q2
    have x2 := x1.fr q2 (fun h => h)
    clear hg
    go_upto_region 4 with (go_at_call 37; refine hnw.mono ?_; rintro e w2 ⟨rfl, hw2, q3⟩)
    obtain ⟨W3, hW3⟩ : ∃ W3, W3 = w2.alloc (.cells #[.pointer (some ⟨g, 0, none⟩)] 81) := ⟨_, rfl⟩
    have q4 : Nw w2 W3 := by rw [hW3]; exact (Fr.refl (fun _ => False) w2).alloc _
    have s3 : Blk W3 w2.heap.size 81 #[.pointer (some ⟨g, 0, none⟩)] := by rw [hW3]; exact Blk.new w2 _ _
    have st0 : WrTo W3 (· = g) g (W8 []) W3 := WrTo.begin (hw2.fr q4 (fun _ _ h => h))
    have hgs : g < w2.heap.size := hw2.bound g rfl
    obtain ⟨sb, hsb⟩ : ∃ sb, sb = w2.heap.size := ⟨_, rfl⟩
    have Q3 := (Q1.tr q3).tr q4
    have x3 := (x2.fr q3 (fun h => h)).fr q4 (fun h => h)
    have hi3 : OrdIn W3 (fun j => j < w.heap.size ∧ F j) x p := (hi.mono fun j h1 h2 => ⟨h2, h1⟩).fr Q3 (fun _ _ h => h)
    have hS : ∀ w', Fr (· = g) W3 w' → w'.cell? ⟨w.heap.size, 0, none⟩ = some (U8V x.kind) ∧ w'.cell? ⟨w.heap.size, 1, none⟩ = some (I64 x.nm.1) ∧ w'.cell? ⟨w.heap.size, 2, none⟩ = some (I64 x.nm.2) ∧ w'.cell? ⟨w.heap.size, 3, none⟩ = some (I64 x.epoch) ∧ w'.cell? ⟨w.heap.size, 4, none⟩ = some (.slice p.a x.acts.length p.ca) ∧ w'.cell? ⟨w.heap.size, 5, none⟩ = some (.bool x.commit) ∧ w'.cell? ⟨w.heap.size, 6, none⟩ = some (.slice p.r x.reads.length p.cr) ∧ w'.cell? ⟨w.heap.size, 7, none⟩ = some (I64 x.scheme) ∧ w'.cell? ⟨w.heap.size, 8, none⟩ = some (I64 x.stage) ∧ w'.cell? ⟨w.heap.size, 9, none⟩ = some (I64 x.to) ∧ w'.cell? ⟨w.heap.size, 10, none⟩ = some (StrV x.lo) ∧ w'.cell? ⟨w.heap.size, 11, none⟩ = some (StrV x.hi) ∧ w'.cell? ⟨w.heap.size, 12, none⟩ = some (.slice p.b x.bytes.length p.cb) ∧ w'.cell? ⟨sb, 0, none⟩ = some (.pointer (some ⟨g, 0, none⟩)) := fun w' f => by
      have a := x3.fr f (fun h => by omega)
      have b := s3.fr f (fun h => by omega)
      rw [← hsb] at b
      exact ⟨by simpa using a.cell 0, by simpa using a.cell 1, by simpa using a.cell 2, by simpa using a.cell 3, by simpa using a.cell 4, by simpa using a.cell 5, by simpa using a.cell 6, by simpa using a.cell 7, by simpa using a.cell 8, by simpa using a.cell 9, by simpa using a.cell 10, by simpa using a.cell 11, by simpa using a.cell 12, by simpa using b.cell 0⟩
    have hAp : ∀ wc FC, Fr (· = g) W3 wc → (∀ k, FC k → k = g ∨ W3.heap.size ≤ k) → Apart wc (fun j => j < w.heap.size ∧ F j) FC := fun wc FC f n k hk => by
      have h1 := f.size
      have h2 := Q3.size
      exact ⟨by omega, fun hF => (n k hF).elim (fun h => by omega) (fun h => by omega)⟩
    have HW3 := Lib.hid hW3
    rw [← HW3.out, ← hsb]
    clear hW3 hsb s3 x0 x1 x2 hi hcon
    have hcv : IntKind.i64.wrap x.kind = x.kind := IntWalk.i64_in _ (by have := hz.kind; omega)
    have L1 := encAll_le [x.kind, x.nm.1, x.nm.2, x.epoch]
    have L2 := acts_most x.acts hsm.acts_
    have L3 := rdgs_most x.reads (rdgOks_sm hsm.reads.2)
    have L4 := hsm.acts.1
    have L5 := hsm.reads.1
    have L6 := enc_len x.acts.length
    have L7 := enc_len x.reads.length
    have hk := hsm.kind
    have hnm := hsm.nm
    have hep := hsm.epoch
    simp only [List.length_cons, List.length_nil] at L1
    obtain ⟨C1, h1, f1, n1⟩ := st0
    obtain ⟨y0, y1, y2, y3, y4, y5, y6, y7, y8, y9, y10, y11, y12, ys⟩ := hS _ f1
    have k1 := wk_nums (W3.alloc (.cells #[I64 x.kind, I64 x.nm.1, I64 x.nm.2, I64 x.epoch] 3)) C1 g [] (h1.alloc _) W3.heap.size 4 [x.kind, x.nm.1, x.nm.2, x.epoch] #[I64 x.kind, I64 x.nm.1, I64 x.nm.2, I64 x.epoch] (Blk.new W3 3 _) (fun hF => by have := h1.bound _ hF; omega) rfl rfl (by omega) (by intro z hz; simp only [List.mem_cons, List.not_mem_nil, or_false] at hz; rcases hz with rfl | rfl | rfl | rfl <;> exact int_right _ (by omega) (by omega)) (by simp)
    go_upto_region 5 with (go_at_call 38; refine k1.mono ?_; rintro e w11 ⟨rfl, t1⟩)
    have st1 := WrTo.trans f1 n1 (WrTo.alloc t1)
    clear k1 y0 y1 y2 y3 y4 y5 y6 y7 y8 y9 y10 y11 y12 ys
    obtain ⟨C2, h2, f2, n2⟩ := st1
    obtain ⟨y0, y1, y2, y3, y4, y5, y6, y7, y8, y9, y10, y11, y12, ys⟩ := hS _ f2
    have k2 := oacts_any w11 C2 _ g ([] ++ encAll [x.kind, x.nm.1, x.nm.2, x.epoch]) h2 p.a p.ca x.acts (hi3.acts.fr f2 (fun k hk => by omega)) (hAp w11 C2 f2 n2) hsm.acts_ hsm.acts.1 (by simp only [List.length_append, List.length_nil]; omega)
    go_upto_region 6 with (go_at_call 39; refine k2.mono ?_; rintro e w12 ⟨rfl, t2⟩)
    have st2 := WrTo.trans f2 n2 t2
    clear k2 y0 y1 y2 y3 y4 y5 y6 y7 y8 y9 y10 y11 y12 ys
    obtain ⟨C3, h3, f3, n3⟩ := st2
    obtain ⟨y0, y1, y2, y3, y4, y5, y6, y7, y8, y9, y10, y11, y12, ys⟩ := hS _ f3
    have k3 := wk_flags (w12.alloc (.cells #[.bool x.commit] 4)) C3 g (([] ++ encAll [x.kind, x.nm.1, x.nm.2, x.epoch]) ++ (enc x.acts.length ++ actsB x.acts)) (h3.alloc _) w12.heap.size 1 [x.commit] #[.bool x.commit] (Blk.new w12 4 _) (fun hF => by have := h3.bound _ hF; omega) rfl rfl (by omega) (by simp only [List.length_append, List.length_nil]; omega)
    go_upto_region 7 with (go_at_call 40; refine k3.mono ?_; rintro e w13 ⟨rfl, t3⟩)
    have st3 := WrTo.trans f3 n3 (WrTo.alloc t3)
    clear k3 y0 y1 y2 y3 y4 y5 y6 y7 y8 y9 y10 y11 y12 ys
    obtain ⟨C4, h4, f4, n4⟩ := st3
    obtain ⟨y0, y1, y2, y3, y4, y5, y6, y7, y8, y9, y10, y11, y12, ys⟩ := hS _ f4
    have k4 := oreads_any w13 C4 _ g ((([] ++ encAll [x.kind, x.nm.1, x.nm.2, x.epoch]) ++ (enc x.acts.length ++ actsB x.acts)) ++ ([x.commit].map flagB).flatten) h4 p.r p.cr x.reads (hi3.reads.fr f4 (fun k hk => by omega)) (hAp w13 C4 f4 n4) (rdgOks_sm hsm.reads.2) hsm.reads.1 (by simp only [List.map_cons, List.map_nil, List.flatten_cons, List.flatten_nil, flagB, List.length_append, List.length_nil, List.length_cons]; omega)
    go_upto_region 8 with (go_at_call 41; refine k4.mono ?_; rintro e w14 ⟨rfl, t4⟩)
    have st4 := WrTo.trans f4 n4 t4
    clear k4 y0 y1 y2 y3 y4 y5 y6 y7 y8 y9 y10 y11 y12 ys
    obtain ⟨C5, h5, f5, n5⟩ := st4
    obtain ⟨bs0, hbs0⟩ : ∃ bs0, (((([] ++ encAll [x.kind, x.nm.1, x.nm.2, x.epoch]) ++ (enc x.acts.length ++ actsB x.acts)) ++ ([x.commit].map flagB).flatten) ++ (enc x.reads.length ++ rdgsB x.reads)) = bs0 := ⟨_, rfl⟩
    rw [hbs0] at h5
    have hb0 : bs0.length ≤ 1000000 := by rw [← hbs0]; simp only [List.map_cons, List.map_nil, List.flatten_cons, List.flatten_nil, flagB, List.length_append, List.length_nil, List.length_cons]; omega
    have hst := WrD.start (cl := [⟨8, 9, 3, #[I64 x.scheme, I64 x.stage, I64 x.to], encAll [x.scheme, x.stage, x.to]⟩, ⟨16, 17, 9, #[StrV x.lo, StrV x.hi], rowB x.lo ++ rowB x.hi⟩, ⟨20, 21, 22, #[.slice p.b x.bytes.length p.cb], rowB x.bytes⟩]) (dk := 22) h5 (fun _ => (0, none))
    have hF : ∀ wz, Fr C5 w14 wz → Fr (· = g) W3 wz := fun wz f => f5.trans f n5
    have hby : ∀ wz, Fr C5 w14 wz → Sl wz (fun j => j < w.heap.size ∧ F j) p.b (x.bytes.map B8) := fun wz f => hi3.bytes.fr (hF wz f) (fun k hk => by omega)
    have hap : ∀ wz F', Fr C5 w14 wz → (∀ k, F' k → C5 k ∨ w14.heap.size ≤ k) → Apart wz (fun j => j < w.heap.size ∧ F j) F' := fun wz F' f n => hAp wz F' (hF wz f) (fun k hk => (n k hk).elim (n5 k) (fun h => .inr (Nat.le_trans f5.size h)))
    have hr3 : ∀ z ∈ [x.scheme, x.stage, x.to], Right z := by
      have := hsm.scheme
      have := hsm.stage
      have := hsm.to
      intro z hz
      simp only [List.mem_cons, List.not_mem_nil, or_false] at hz
      rcases hz with rfl | rfl | rfl <;> exact int_right _ (by omega) (by omega)
    have hr4 : ∀ s ∈ [x.lo, x.hi], s.length ≤ 1000 := by
      have := hsm.lo
      have := hsm.hi
      intro z hz
      simp only [List.mem_cons, List.not_mem_nil, or_false] at hz
      rcases hz with rfl | rfl <;> omega
    have M1 := encAll_le [x.scheme, x.stage, x.to]
    simp only [List.length_cons, List.length_nil] at M1
    have M2 := rowB_most x.lo
    have M3 := rowB_most x.hi
    have M4 := rowB_most x.bytes
    have M5 := hsm.lo
    have M6 := hsm.hi
    have M7 := hsm.bytes
    have M8 : (bs0 ++ callsB [⟨8, 9, 3, #[I64 x.scheme, I64 x.stage, I64 x.to], encAll [x.scheme, x.stage, x.to]⟩, ⟨16, 17, 9, #[StrV x.lo, StrV x.hi], rowB x.lo ++ rowB x.hi⟩, ⟨20, 21, 22, #[.slice p.b x.bytes.length p.cb], rowB x.bytes⟩]).length ≤ 2000000 := by simp [callsB]; omega
    obtain ⟨N, hN⟩ : ∃ N, (bs0 ++ callsB [⟨8, 9, 3, #[I64 x.scheme, I64 x.stage, I64 x.to], encAll [x.scheme, x.stage, x.to]⟩, ⟨16, 17, 9, #[StrV x.lo, StrV x.hi], rowB x.lo ++ rowB x.hi⟩, ⟨20, 21, 22, #[.slice p.b x.bytes.length p.cb], rowB x.bytes⟩]).length = N := ⟨_, rfl⟩
    have hdn : ∀ wz F', IsWr wz F' g (W8 (bs0 ++ callsB [⟨8, 9, 3, #[I64 x.scheme, I64 x.stage, I64 x.to], encAll [x.scheme, x.stage, x.to]⟩, ⟨16, 17, 9, #[StrV x.lo, StrV x.hi], rowB x.lo ++ rowB x.hi⟩, ⟨20, 21, 22, #[.slice p.b x.bytes.length p.cb], rowB x.bytes⟩])) → Calls Tryz.prog 44 #[.pointer (some ⟨g, 0, none⟩)] wz fun e w' => ∃ A c, e = .returned (.tuple #[.slice A N c, .int .i64 0]) ∧ Own w' 5 1 A (bs0 ++ callsB [⟨8, 9, 3, #[I64 x.scheme, I64 x.stage, I64 x.to], encAll [x.scheme, x.stage, x.to]⟩, ⟨16, 17, 9, #[StrV x.lo, StrV x.hi], rowB x.lo ++ rowB x.hi⟩, ⟨20, 21, 22, #[.slice p.b x.bytes.length p.cb], rowB x.bytes⟩]).length c ((bs0 ++ callsB [⟨8, 9, 3, #[I64 x.scheme, I64 x.stage, I64 x.to], encAll [x.scheme, x.stage, x.to]⟩, ⟨16, 17, 9, #[StrV x.lo, StrV x.hi], rowB x.lo ++ rowB x.hi⟩, ⟨20, 21, 22, #[.slice p.b x.bytes.length p.cb], rowB x.bytes⟩]).map B8) ∧ Nw wz w' ∧ ∀ k, inA A k → wz.heap.size ≤ k := fun wz F' h => by
      have := done_ok wz F' g _ h rfl (Nat.le_trans M8 (by decide))
      rw [← hN]
      exact this
    have HN := Lib.hid hN
    have HB := Lib.hid hbs0
    clear hN
    clear hbs0 L1 L2 L3 L4 L5 L6 L7 hep hnm hk
    refine wp_region_eff2 _ _ (by kernel_rfl) (by kernel_rfl) hst ?_
    clear hst
    apply wpEff2_cons
    focus
      intro B L wz hL hD hC
      refine .inl ⟨by rfl, ?_⟩
      obtain ⟨y0, y1, y2, y3, y4, y5, y6, y7, y8, y9, y10, y11, y12, ys⟩ := hS wz (hF wz hC.fr)
      unfold effAt
      go_simp
      exact ⟨rfl, hC.keep _ (by rfl)⟩
    simp only [Act.put, List.setIfInBounds_toArray, List.set_cons_zero, List.set_cons_succ]
    apply wpEff2_cons
    focus
      intro B L wz hL hD hC
      refine .inl ⟨by rfl, ?_⟩
      obtain ⟨y0, y1, y2, y3, y4, y5, y6, y7, y8, y9, y10, y11, y12, ys⟩ := hS wz (hF wz hC.fr)
      unfold effAt
      go_simp
      exact ⟨rfl, hC.keep _ (by rfl)⟩
    simp only [Act.put, List.setIfInBounds_toArray, List.set_cons_zero, List.set_cons_succ]
    apply wpEff2_cons
    focus
      intro B L wz hL hD hC
      refine .inl ⟨by rfl, ?_⟩
      obtain ⟨y0, y1, y2, y3, y4, y5, y6, y7, y8, y9, y10, y11, y12, ys⟩ := hS wz (hF wz hC.fr)
      unfold effAt
      go_simp
      exact ⟨rfl, hC.keep _ (by rfl)⟩
    simp only [Act.put, List.setIfInBounds_toArray, List.set_cons_zero, List.set_cons_succ]
    apply wpEff2_cons
    focus
      intro B L wz hL hD hC
      refine .inl ⟨by rfl, ?_⟩
      obtain ⟨y0, y1, y2, y3, y4, y5, y6, y7, y8, y9, y10, y11, y12, ys⟩ := hS wz (hF wz hC.fr)
      unfold effAt
      go_simp
      exact ⟨rfl, hC.keep _ (by rfl)⟩
    simp only [Act.put, List.setIfInBounds_toArray, List.set_cons_zero, List.set_cons_succ]
    apply wpEff2_cons
    focus
      intro B L wz hL hD hC
      refine .inl ⟨by rfl, ?_⟩
      obtain ⟨y0, y1, y2, y3, y4, y5, y6, y7, y8, y9, y10, y11, y12, ys⟩ := hS wz (hF wz hC.fr)
      unfold effAt
      go_simp
      exact ⟨rfl, hC.keep _ (by rfl)⟩
    simp only [Act.put, List.setIfInBounds_toArray, List.set_cons_zero, List.set_cons_succ]
    apply wpEff2_cons
    focus
      intro B L wz hL hD hC
      refine .inl ⟨by rfl, ?_⟩
      obtain ⟨y0, y1, y2, y3, y4, y5, y6, y7, y8, y9, y10, y11, y12, ys⟩ := hS wz (hF wz hC.fr)
      unfold effAt
      go_simp
      exact ⟨rfl, hC.keep _ (by rfl)⟩
    simp only [Act.put, List.setIfInBounds_toArray, List.set_cons_zero, List.set_cons_succ]
    apply wpEff2_cons
    focus
      intro B L wz hL hD hC
      refine .inl ⟨by rfl, ?_⟩
      obtain ⟨y0, y1, y2, y3, y4, y5, y6, y7, y8, y9, y10, y11, y12, ys⟩ := hS wz (hF wz hC.fr)
      unfold effAt
      go_simp
      exact ⟨rfl, hC.keep _ (by rfl)⟩
    simp only [Act.put, List.setIfInBounds_toArray, List.set_cons_zero, List.set_cons_succ]
    apply wpEff2_cons
    focus
      intro B L wz hL hD hC
      refine .inl ⟨by rfl, ?_⟩
      obtain ⟨y0, y1, y2, y3, y4, y5, y6, y7, y8, y9, y10, y11, y12, ys⟩ := hS wz (hF wz hC.fr)
      unfold effAt
      go_simp
      exact ⟨rfl, hC.keep _ (by rfl)⟩
    simp only [Act.put, List.setIfInBounds_toArray, List.set_cons_zero, List.set_cons_succ]
    refine wpEff2_free (fun b => .slice (some ⟨b.1, 0, none⟩) 3 3) ?_ ?_
    focus
      intro B L wz hL hD hC
      refine .inl ⟨by rfl, ?_⟩
      unfold effAt2
      go_simp
      exact ⟨(wz.heap.size, none), rfl, hC.make 8 3 #[I64 x.scheme, I64 x.stage, I64 x.to] (by intro d hd hk; simp only [List.mem_cons, List.not_mem_nil, or_false] at hd; rcases hd with rfl | rfl | rfl <;> first | exact ⟨rfl, rfl⟩ | exact absurd hk (by simp)) (by rfl)⟩
    simp only [Act.put, List.setIfInBounds_toArray, List.set_cons_zero, List.set_cons_succ]
    apply wpEff2_cons
    focus
      intro B L wz hL hD hC
      obtain ⟨F', h1, h2, h3, h4, h5⟩ := hC.call 0 _ rfl hL (hD 8 (by kernel_rfl)) (.inl rfl) (by rfl) (by rfl)
      have hfr := hC.fr
      refine .inl ⟨by rfl, ?_⟩
      unfold effAt
      go_simp
      refine (wk_nums wz F' g _ h1 (B 8).1 3 [x.scheme, x.stage, x.to] #[I64 x.scheme, I64 x.stage, I64 x.to] h2 h3 rfl rfl (by omega) hr3 (by simp only [callsB, List.take_zero, List.map_nil, List.flatten_nil, List.append_nil]; omega)).mono ?_
      rintro e w9 ⟨rfl, ht⟩
      exact ⟨rfl, h5 _ (ht)⟩
    simp only [Act.put, List.setIfInBounds_toArray, List.set_cons_zero, List.set_cons_succ]
    apply wpEff2_cons
    focus
      intro B L wz hL hD hC
      refine .inl ⟨by rfl, ?_⟩
      obtain ⟨y0, y1, y2, y3, y4, y5, y6, y7, y8, y9, y10, y11, y12, ys⟩ := hS wz (hF wz hC.fr)
      unfold effAt
      go_simp
      exact ⟨rfl, hC.keep _ (by rfl)⟩
    simp only [Act.put, List.setIfInBounds_toArray, List.set_cons_zero, List.set_cons_succ]
    apply wpEff2_cons
    focus
      intro B L wz hL hD hC
      refine .inl ⟨by rfl, ?_⟩
      obtain ⟨y0, y1, y2, y3, y4, y5, y6, y7, y8, y9, y10, y11, y12, ys⟩ := hS wz (hF wz hC.fr)
      unfold effAt
      go_simp
      exact ⟨rfl, hC.keep _ (by rfl)⟩
    simp only [Act.put, List.setIfInBounds_toArray, List.set_cons_zero, List.set_cons_succ]
    apply wpEff2_cons
    focus
      intro B L wz hL hD hC
      refine .inl ⟨by rfl, ?_⟩
      obtain ⟨y0, y1, y2, y3, y4, y5, y6, y7, y8, y9, y10, y11, y12, ys⟩ := hS wz (hF wz hC.fr)
      unfold effAt
      go_simp
      exact ⟨rfl, hC.keep _ (by rfl)⟩
    simp only [Act.put, List.setIfInBounds_toArray, List.set_cons_zero, List.set_cons_succ]
    apply wpEff2_cons
    focus
      intro B L wz hL hD hC
      refine .inl ⟨by rfl, ?_⟩
      obtain ⟨y0, y1, y2, y3, y4, y5, y6, y7, y8, y9, y10, y11, y12, ys⟩ := hS wz (hF wz hC.fr)
      unfold effAt
      go_simp
      exact ⟨rfl, hC.keep _ (by rfl)⟩
    simp only [Act.put, List.setIfInBounds_toArray, List.set_cons_zero, List.set_cons_succ]
    apply wpEff2_cons
    focus
      intro B L wz hL hD hC
      refine .inl ⟨by rfl, ?_⟩
      obtain ⟨y0, y1, y2, y3, y4, y5, y6, y7, y8, y9, y10, y11, y12, ys⟩ := hS wz (hF wz hC.fr)
      unfold effAt
      go_simp
      exact ⟨rfl, hC.keep _ (by rfl)⟩
    simp only [Act.put, List.setIfInBounds_toArray, List.set_cons_zero, List.set_cons_succ]
    apply wpEff2_cons
    focus
      intro B L wz hL hD hC
      refine .inl ⟨by rfl, ?_⟩
      obtain ⟨y0, y1, y2, y3, y4, y5, y6, y7, y8, y9, y10, y11, y12, ys⟩ := hS wz (hF wz hC.fr)
      unfold effAt
      go_simp
      exact ⟨rfl, hC.keep _ (by rfl)⟩
    simp only [Act.put, List.setIfInBounds_toArray, List.set_cons_zero, List.set_cons_succ]
    refine wpEff2_free (fun b => .slice (some ⟨b.1, 0, none⟩) 2 2) ?_ ?_
    focus
      intro B L wz hL hD hC
      refine .inl ⟨by rfl, ?_⟩
      unfold effAt2
      go_simp
      exact ⟨(wz.heap.size, none), rfl, hC.make 16 9 #[StrV x.lo, StrV x.hi] (by intro d hd hk; simp only [List.mem_cons, List.not_mem_nil, or_false] at hd; rcases hd with rfl | rfl | rfl <;> first | exact ⟨rfl, rfl⟩ | exact absurd hk (by simp)) (by rfl)⟩
    simp only [Act.put, List.setIfInBounds_toArray, List.set_cons_zero, List.set_cons_succ]
    apply wpEff2_cons
    focus
      intro B L wz hL hD hC
      obtain ⟨F', h1, h2, h3, h4, h5⟩ := hC.call 1 _ rfl hL (hD 16 (by kernel_rfl)) (.inr ⟨0, _, rfl, rfl, hD 9 (by kernel_rfl)⟩) (by rfl) (by rfl)
      have hfr := hC.fr
      refine .inl ⟨by rfl, ?_⟩
      unfold effAt
      go_simp
      refine (wk_texts wz F' g _ h1 (B 16).1 2 [x.lo, x.hi] #[StrV x.lo, StrV x.hi] h2 h3 rfl rfl (by omega) hr4 (by simp [callsB]; omega)).mono ?_
      rintro e w9 ⟨rfl, ht⟩
      exact ⟨rfl, h5 _ (by simpa using ht)⟩
    simp only [Act.put, List.setIfInBounds_toArray, List.set_cons_zero, List.set_cons_succ]
    apply wpEff2_cons
    focus
      intro B L wz hL hD hC
      refine .inl ⟨by rfl, ?_⟩
      obtain ⟨y0, y1, y2, y3, y4, y5, y6, y7, y8, y9, y10, y11, y12, ys⟩ := hS wz (hF wz hC.fr)
      unfold effAt
      go_simp
      exact ⟨rfl, hC.keep _ (by rfl)⟩
    simp only [Act.put, List.setIfInBounds_toArray, List.set_cons_zero, List.set_cons_succ]
    apply wpEff2_cons
    focus
      intro B L wz hL hD hC
      refine .inl ⟨by rfl, ?_⟩
      obtain ⟨y0, y1, y2, y3, y4, y5, y6, y7, y8, y9, y10, y11, y12, ys⟩ := hS wz (hF wz hC.fr)
      unfold effAt
      go_simp
      exact ⟨rfl, hC.keep _ (by rfl)⟩
    simp only [Act.put, List.setIfInBounds_toArray, List.set_cons_zero, List.set_cons_succ]
    refine wpEff2_free (fun b => .slice (some ⟨b.1, 0, none⟩) 1 1) ?_ ?_
    focus
      intro B L wz hL hD hC
      refine .inl ⟨by rfl, ?_⟩
      unfold effAt2
      go_simp
      exact ⟨(wz.heap.size, none), rfl, hC.make 20 22 #[.slice p.b x.bytes.length p.cb] (by intro d hd hk; simp only [List.mem_cons, List.not_mem_nil, or_false] at hd; rcases hd with rfl | rfl | rfl <;> first | exact ⟨rfl, rfl⟩ | exact absurd hk (by simp)) (by rfl)⟩
    simp only [Act.put, List.setIfInBounds_toArray, List.set_cons_zero, List.set_cons_succ]
    apply wpEff2_cons
    focus
      intro B L wz hL hD hC
      obtain ⟨F', h1, h2, h3, h4, h5⟩ := hC.call 2 _ rfl hL (hD 20 (by kernel_rfl)) (.inr ⟨1, _, rfl, rfl, hD 17 (by kernel_rfl)⟩) (by rfl) (by rfl)
      have hfr := hC.fr
      refine .inl ⟨by rfl, ?_⟩
      unfold effAt
      go_simp
      refine (wk_row wz F' _ g _ h1 (B 20).1 p.b p.cb x.bytes h2 h3 (hby wz hfr) (hap wz F' hfr h4) (by omega) hi3.cb.1 hi3.cb.2 (by simp [callsB]; omega)).mono ?_
      rintro e w9 ⟨rfl, ht⟩
      exact ⟨rfl, h5 _ (ht)⟩
    simp only [Act.put, List.setIfInBounds_toArray, List.set_cons_zero, List.set_cons_succ]
    refine wpEff2_free (fun b => .tuple #[.slice b.2 N b.1, .int .i64 0]) ?_ ?_
    focus
      intro B L wz hL hD hC
      obtain ⟨F', h1, h2⟩ := hC.fin 2 _ rfl rfl (hD 21 (by kernel_rfl)) (by rfl)
      refine .inl ⟨by rfl, ?_⟩
      unfold effAt2
      go_simp
      refine (hdn wz F' h1).mono ?_
      rintro e w9 ⟨A9, c9, rfl, ho9, hf9, hA9⟩
      exact ⟨(c9, A9), rfl, h2 A9 c9 w9 ho9 hf9 hA9⟩
    simp only [Act.put, List.setIfInBounds_toArray, List.set_cons_zero, List.set_cons_succ]
    refine wpEff2_dep (fun B => .slice (B 22).2 N (B 22).1) (fun B B2 h => by have e := h 22 (by kernel_rfl); simp only [e]) ?_ ?_
    focus
      intro B L wz hL hD hC
      refine .inl ⟨by rfl, ?_⟩
      unfold effAt
      go_simp
      exact ⟨rfl, hC.keep _ (by rfl)⟩
    simp only [Act.put, List.setIfInBounds_toArray, List.set_cons_zero, List.set_cons_succ]
    apply wpEff2_cons
    focus
      intro B L wz hL hD hC
      refine .inl ⟨by rfl, ?_⟩
      obtain ⟨y0, y1, y2, y3, y4, y5, y6, y7, y8, y9, y10, y11, y12, ys⟩ := hS wz (hF wz hC.fr)
      unfold effAt
      go_simp
      exact ⟨rfl, hC.keep _ (by rfl)⟩
    simp only [Act.put, List.setIfInBounds_toArray, List.set_cons_zero, List.set_cons_succ]
    refine wpEff2_dep (fun B => .slice (B 22).2 N (B 22).1) (fun B B2 h => by have e := h 22 (by kernel_rfl); simp only [e]) ?_ ?_
    focus
      intro B L wz hL hD hC
      refine .inl ⟨by rfl, ?_⟩
      unfold effAt
      go_simp
      exact ⟨rfl, hC.keep _ (by rfl)⟩
    simp only [Act.put, List.setIfInBounds_toArray, List.set_cons_zero, List.set_cons_succ]
    apply wpEff2_cons
    focus
      intro B L wz hL hD hC
      refine .inl ⟨by rfl, ?_⟩
      obtain ⟨y0, y1, y2, y3, y4, y5, y6, y7, y8, y9, y10, y11, y12, ys⟩ := hS wz (hF wz hC.fr)
      unfold effAt
      go_simp
      exact ⟨rfl, hC.keep _ (by rfl)⟩
    simp only [Act.put, List.setIfInBounds_toArray, List.set_cons_zero, List.set_cons_succ]
    refine wpEff2_nil fun B wz hC5 => ?_
    obtain ⟨ho, hA, hf⟩ := hC5.told rfl
    have e : bs0 ++ callsB [⟨8, 9, 3, #[I64 x.scheme, I64 x.stage, I64 x.to], encAll [x.scheme, x.stage, x.to]⟩, ⟨16, 17, 9, #[StrV x.lo, StrV x.hi], rowB x.lo ++ rowB x.hi⟩, ⟨20, 21, 22, #[.slice p.b x.bytes.length p.cb], rowB x.bytes⟩] = ordB x := by
      rw [← HB.out]
      simp [callsB, ordB]
    have e2 := HN.out
    rw [e2] at ho
    have HH := Lib.hid (And.intro ho (And.intro hA (And.intro hf (And.intro e e2))))
    clear ho hA hf e e2 hC5
    go_wp2_with fail
    go_ret2
    obtain ⟨ho, hA, hf, e, e2⟩ := HH.out
    rw [e] at e2 ho
    refine ⟨(B 22).2, (B 22).1, by rw [e2]; rfl, by rw [e2]; exact ho, Q3.trans (hF wz hf) (fun k hk => .inr (by omega)), fun k hk => ?_⟩
    have h1 := hA k hk
    have h2 := f5.size
    have h3 := Q3.size
    omega
end Go.Proofs.YtkjnlhidnkbelaaGreatDoor

namespace Go.Proofs.YtkjnlhidnkbelaaGreatDoor
open Go Go.RowKit
set_option linter.unusedVariables false
set_option linter.unusedSimpArgs false
set_option maxRecDepth 100000 in
set_option maxHeartbeats 8000000 in
theorem oputAns_any (w : World) (F : Nat → Prop) (x : AnsF) (p : Pl) (hi : AnsIn w F x p) (hz : AnsSz x) :
    Calls Tryz.prog 15 #[.agg (afA x p)] w fun e w' => PutTo w (if ansOk x = true then some (ansB x) else none) e w' := by
  obtain ⟨W0, hW0⟩ : ∃ W0, W0 = w.alloc (.cells (afA x p) 41) := ⟨_, rfl⟩
  have q0 : Nw w W0 := by rw [hW0]; exact (Fr.refl (fun _ => False) w).alloc _
  have x0 : Blk W0 w.heap.size 41 (afA x p) := by rw [hW0]; exact Blk.new w _ _
  have hz0 : W0.heap.size = w.heap.size + 1 := by rw [hW0]; simp
  obtain ⟨W1, hW1⟩ : ∃ W1, W1 = W0.alloc (.cells (afA x p) 41) := ⟨_, rfl⟩
  have q1 : Nw W0 W1 := by rw [hW1]; exact (Fr.refl (fun _ => False) W0).alloc _
  have y1 : Blk W1 (w.heap.size + 1) 41 (afA x p) := by rw [hW1, ← hz0]; exact Blk.new W0 _ _
  have x1 := x0.fr q1 (fun h => h)
  have q01 := q0.tr q1
  have hcon := oSound_any W1 F (w.heap.size + 1) x p y1 (hi.fr q01 (fun _ _ h => h)) hz
  have HW0 := Lib.hid hW0
  have HW1 := Lib.hid hW1
  clear hW0 hW1 y1
  cases hok : ansOk x with
  | false =>
    rw [hok] at hcon
    rw [if_neg (by simp)]
    clear hok
    go_enter Tryz.func15, Tryz.ntmps15
    go_upto_region 1 with (fail)
    rw [← HW0.out]
    go_wp2_with (first | (refine wpList_load_row rfl 41 _ rfl w.heap.size rfl 41 _ (0, 0) _ x0 Tryz.underlying41 rfl ans_size ?_) | (go_at_call 12; rw [← HW1.out]; refine hcon.mono ?_; rintro e w1 ⟨rfl, q2⟩))
    go_ret2
    exact ⟨rfl, q01.tr q2⟩
  | true =>
    have hsm := ansOk_sm hok
    rw [hok] at hcon
    rw [if_pos rfl]
    clear hok
    go_enter Tryz.func15, Tryz.ntmps15
    go_upto_region 1 with (fail)
    rw [← HW0.out]
    go_upto_region 3 with (first | (refine wpList_load_row rfl 41 _ rfl w.heap.size rfl 41 _ (0, 0) _ x0 Tryz.underlying41 rfl ans_size ?_) | (go_at_call 12; rw [← HW1.out]; refine hcon.mono ?_; rintro e w1 ⟨rfl, q2⟩))
    obtain ⟨g, hg⟩ : ∃ g, g = w1.heap.size := ⟨_, rfl⟩
    have hnw := newWriter_any w1
    rw [← hg] at hnw
    have hgw : w.heap.size < g := by have := q01.size; have := q2.size; have := x1.lt; omega
    have Q1 := q01.tr q2
    have x2 := x1.fr q2 (fun h => h)
    clear hg
    go_upto_region 4 with (go_at_call 37; refine hnw.mono ?_; rintro e w2 ⟨rfl, hw2, q3⟩)
    obtain ⟨W3, hW3⟩ : ∃ W3, W3 = w2.alloc (.cells #[.pointer (some ⟨g, 0, none⟩)] 81) := ⟨_, rfl⟩
    have q4 : Nw w2 W3 := by rw [hW3]; exact (Fr.refl (fun _ => False) w2).alloc _
    have s3 : Blk W3 w2.heap.size 81 #[.pointer (some ⟨g, 0, none⟩)] := by rw [hW3]; exact Blk.new w2 _ _
    have st0 : WrTo W3 (· = g) g (W8 []) W3 := WrTo.begin (hw2.fr q4 (fun _ _ h => h))
    have hgs : g < w2.heap.size := hw2.bound g rfl
    obtain ⟨sb, hsb⟩ : ∃ sb, sb = w2.heap.size := ⟨_, rfl⟩
    have Q3 := (Q1.tr q3).tr q4
    have x3 := (x2.fr q3 (fun h => h)).fr q4 (fun h => h)
    have hi3 : AnsIn W3 (fun j => j < w.heap.size ∧ F j) x p := (hi.mono fun j h1 h2 => ⟨h2, h1⟩).fr Q3 (fun _ _ h => h)
    have hS : ∀ w', Fr (· = g) W3 w' → w'.cell? ⟨w.heap.size, 0, none⟩ = some (I64 x.err) ∧ w'.cell? ⟨w.heap.size, 1, none⟩ = some (I64 x.nm.1) ∧ w'.cell? ⟨w.heap.size, 2, none⟩ = some (I64 x.nm.2) ∧ w'.cell? ⟨w.heap.size, 3, none⟩ = some (.bool x.is) ∧ w'.cell? ⟨w.heap.size, 4, none⟩ = some (.bool x.commit) ∧ w'.cell? ⟨w.heap.size, 5, none⟩ = some (.slice p.r x.reads.length p.cr) ∧ w'.cell? ⟨w.heap.size, 6, none⟩ = some (I64 x.scheme) ∧ w'.cell? ⟨w.heap.size, 7, none⟩ = some (I64 x.stage) ∧ w'.cell? ⟨w.heap.size, 8, none⟩ = some (.slice p.b x.bytes.length p.cb) ∧ w'.cell? ⟨sb, 0, none⟩ = some (.pointer (some ⟨g, 0, none⟩)) := fun w' f => by
      have a := x3.fr f (fun h => by omega)
      have b := s3.fr f (fun h => by omega)
      rw [← hsb] at b
      exact ⟨by simpa using a.cell 0, by simpa using a.cell 1, by simpa using a.cell 2, by simpa using a.cell 3, by simpa using a.cell 4, by simpa using a.cell 5, by simpa using a.cell 6, by simpa using a.cell 7, by simpa using a.cell 8, by simpa using b.cell 0⟩
    have hAp : ∀ wc FC, Fr (· = g) W3 wc → (∀ k, FC k → k = g ∨ W3.heap.size ≤ k) → Apart wc (fun j => j < w.heap.size ∧ F j) FC := fun wc FC f n k hk => by
      have h1 := f.size
      have h2 := Q3.size
      exact ⟨by omega, fun hF => (n k hF).elim (fun h => by omega) (fun h => by omega)⟩
    have HW3 := Lib.hid hW3
    rw [← HW3.out, ← hsb]
    clear hW3 hsb s3 x0 x1 x2 hi hcon
    have L3 := rdgs_most x.reads (rdgOks_sm hsm.reads.2)
    have L5 := hsm.reads.1
    have L7 := enc_len x.reads.length
    have L8 := encAll_le [x.err, x.nm.1, x.nm.2]
    simp only [List.length_cons, List.length_nil] at L8
    have hnm := hsm.nm
    have her := hsm.err
    have hr3 : ∀ z ∈ [x.err, x.nm.1, x.nm.2], Right z := by
      intro z hz
      simp only [List.mem_cons, List.not_mem_nil, or_false] at hz
      rcases hz with rfl | rfl | rfl <;> exact int_right _ (by omega) (by omega)
    obtain ⟨C1, h1, f1, n1⟩ := st0
    have hst := WrC.start (cl := [⟨10, 11, 3, #[I64 x.err, I64 x.nm.1, I64 x.nm.2], encAll [x.err, x.nm.1, x.nm.2]⟩, ⟨16, 17, 4, #[.bool x.is, .bool x.commit], flagB x.is ++ flagB x.commit⟩]) h1 (fun _ => (0, none))
    have hF : ∀ wz, Fr C1 W3 wz → Fr (· = g) W3 wz := fun wz f => f1.trans f n1
    refine wp_region_eff2 _ _ (by kernel_rfl) (by kernel_rfl) hst ?_
    clear hst
    apply wpEff2_cons
    focus
      intro B L wz hL hD hC
      refine .inl ⟨by rfl, ?_⟩
      obtain ⟨y0, y1, y2, y3, y4, y5, y6, y7, y8, ys⟩ := hS wz (hF wz hC.fr)
      unfold effAt
      go_simp
      exact ⟨rfl, hC.keep _ (by rfl)⟩
    simp only [Act.put, List.setIfInBounds_toArray, List.set_cons_zero, List.set_cons_succ]
    apply wpEff2_cons
    focus
      intro B L wz hL hD hC
      refine .inl ⟨by rfl, ?_⟩
      obtain ⟨y0, y1, y2, y3, y4, y5, y6, y7, y8, ys⟩ := hS wz (hF wz hC.fr)
      unfold effAt
      go_simp
      exact ⟨rfl, hC.keep _ (by rfl)⟩
    simp only [Act.put, List.setIfInBounds_toArray, List.set_cons_zero, List.set_cons_succ]
    apply wpEff2_cons
    focus
      intro B L wz hL hD hC
      refine .inl ⟨by rfl, ?_⟩
      obtain ⟨y0, y1, y2, y3, y4, y5, y6, y7, y8, ys⟩ := hS wz (hF wz hC.fr)
      unfold effAt
      go_simp
      exact ⟨rfl, hC.keep _ (by rfl)⟩
    simp only [Act.put, List.setIfInBounds_toArray, List.set_cons_zero, List.set_cons_succ]
    apply wpEff2_cons
    focus
      intro B L wz hL hD hC
      refine .inl ⟨by rfl, ?_⟩
      obtain ⟨y0, y1, y2, y3, y4, y5, y6, y7, y8, ys⟩ := hS wz (hF wz hC.fr)
      unfold effAt
      go_simp
      exact ⟨rfl, hC.keep _ (by rfl)⟩
    simp only [Act.put, List.setIfInBounds_toArray, List.set_cons_zero, List.set_cons_succ]
    apply wpEff2_cons
    focus
      intro B L wz hL hD hC
      refine .inl ⟨by rfl, ?_⟩
      obtain ⟨y0, y1, y2, y3, y4, y5, y6, y7, y8, ys⟩ := hS wz (hF wz hC.fr)
      unfold effAt
      go_simp
      exact ⟨rfl, hC.keep _ (by rfl)⟩
    simp only [Act.put, List.setIfInBounds_toArray, List.set_cons_zero, List.set_cons_succ]
    apply wpEff2_cons
    focus
      intro B L wz hL hD hC
      refine .inl ⟨by rfl, ?_⟩
      obtain ⟨y0, y1, y2, y3, y4, y5, y6, y7, y8, ys⟩ := hS wz (hF wz hC.fr)
      unfold effAt
      go_simp
      exact ⟨rfl, hC.keep _ (by rfl)⟩
    simp only [Act.put, List.setIfInBounds_toArray, List.set_cons_zero, List.set_cons_succ]
    apply wpEff2_cons
    focus
      intro B L wz hL hD hC
      refine .inl ⟨by rfl, ?_⟩
      obtain ⟨y0, y1, y2, y3, y4, y5, y6, y7, y8, ys⟩ := hS wz (hF wz hC.fr)
      unfold effAt
      go_simp
      exact ⟨rfl, hC.keep _ (by rfl)⟩
    simp only [Act.put, List.setIfInBounds_toArray, List.set_cons_zero, List.set_cons_succ]
    apply wpEff2_cons
    focus
      intro B L wz hL hD hC
      refine .inl ⟨by rfl, ?_⟩
      obtain ⟨y0, y1, y2, y3, y4, y5, y6, y7, y8, ys⟩ := hS wz (hF wz hC.fr)
      unfold effAt
      go_simp
      exact ⟨rfl, hC.keep _ (by rfl)⟩
    simp only [Act.put, List.setIfInBounds_toArray, List.set_cons_zero, List.set_cons_succ]
    apply wpEff2_cons
    focus
      intro B L wz hL hD hC
      refine .inl ⟨by rfl, ?_⟩
      obtain ⟨y0, y1, y2, y3, y4, y5, y6, y7, y8, ys⟩ := hS wz (hF wz hC.fr)
      unfold effAt
      go_simp
      exact ⟨rfl, hC.keep _ (by rfl)⟩
    simp only [Act.put, List.setIfInBounds_toArray, List.set_cons_zero, List.set_cons_succ]
    apply wpEff2_cons
    focus
      intro B L wz hL hD hC
      refine .inl ⟨by rfl, ?_⟩
      obtain ⟨y0, y1, y2, y3, y4, y5, y6, y7, y8, ys⟩ := hS wz (hF wz hC.fr)
      unfold effAt
      go_simp
      exact ⟨rfl, hC.keep _ (by rfl)⟩
    simp only [Act.put, List.setIfInBounds_toArray, List.set_cons_zero, List.set_cons_succ]
    refine wpEff2_free (fun b => .slice (some ⟨b.1, 0, none⟩) 3 3) ?_ ?_
    focus
      intro B L wz hL hD hC
      refine .inl ⟨by rfl, ?_⟩
      unfold effAt2
      go_simp
      exact ⟨(wz.heap.size, none), rfl, hC.make 10 3 #[I64 x.err, I64 x.nm.1, I64 x.nm.2] (by intro d hd hk; simp only [List.mem_cons, List.not_mem_nil, or_false] at hd; rcases hd with rfl | rfl <;> first | exact ⟨rfl, rfl⟩ | exact absurd hk (by simp)) (by rfl)⟩
    simp only [Act.put, List.setIfInBounds_toArray, List.set_cons_zero, List.set_cons_succ]
    apply wpEff2_cons
    focus
      intro B L wz hL hD hC
      obtain ⟨F', h1, h2, h3, h4, h5⟩ := hC.call 0 _ rfl hL (hD 10 (by kernel_rfl)) (.inl rfl) (by rfl) (by rfl)
      have hfr := hC.fr
      refine .inl ⟨by rfl, ?_⟩
      unfold effAt
      go_simp
      refine (wk_nums wz F' g _ h1 (B 10).1 3 [x.err, x.nm.1, x.nm.2] #[I64 x.err, I64 x.nm.1, I64 x.nm.2] h2 h3 rfl rfl (by omega) hr3 (by simp [callsB])).mono ?_
      rintro e w9 ⟨rfl, ht⟩
      exact ⟨rfl, h5 _ (ht)⟩
    simp only [Act.put, List.setIfInBounds_toArray, List.set_cons_zero, List.set_cons_succ]
    apply wpEff2_cons
    focus
      intro B L wz hL hD hC
      refine .inl ⟨by rfl, ?_⟩
      obtain ⟨y0, y1, y2, y3, y4, y5, y6, y7, y8, ys⟩ := hS wz (hF wz hC.fr)
      unfold effAt
      go_simp
      exact ⟨rfl, hC.keep _ (by rfl)⟩
    simp only [Act.put, List.setIfInBounds_toArray, List.set_cons_zero, List.set_cons_succ]
    apply wpEff2_cons
    focus
      intro B L wz hL hD hC
      refine .inl ⟨by rfl, ?_⟩
      obtain ⟨y0, y1, y2, y3, y4, y5, y6, y7, y8, ys⟩ := hS wz (hF wz hC.fr)
      unfold effAt
      go_simp
      exact ⟨rfl, hC.keep _ (by rfl)⟩
    simp only [Act.put, List.setIfInBounds_toArray, List.set_cons_zero, List.set_cons_succ]
    apply wpEff2_cons
    focus
      intro B L wz hL hD hC
      refine .inl ⟨by rfl, ?_⟩
      obtain ⟨y0, y1, y2, y3, y4, y5, y6, y7, y8, ys⟩ := hS wz (hF wz hC.fr)
      unfold effAt
      go_simp
      exact ⟨rfl, hC.keep _ (by rfl)⟩
    simp only [Act.put, List.setIfInBounds_toArray, List.set_cons_zero, List.set_cons_succ]
    apply wpEff2_cons
    focus
      intro B L wz hL hD hC
      refine .inl ⟨by rfl, ?_⟩
      obtain ⟨y0, y1, y2, y3, y4, y5, y6, y7, y8, ys⟩ := hS wz (hF wz hC.fr)
      unfold effAt
      go_simp
      exact ⟨rfl, hC.keep _ (by rfl)⟩
    simp only [Act.put, List.setIfInBounds_toArray, List.set_cons_zero, List.set_cons_succ]
    refine wpEff2_free (fun b => .slice (some ⟨b.1, 0, none⟩) 2 2) ?_ ?_
    focus
      intro B L wz hL hD hC
      refine .inl ⟨by rfl, ?_⟩
      unfold effAt2
      go_simp
      exact ⟨(wz.heap.size, none), rfl, hC.make 16 4 #[.bool x.is, .bool x.commit] (by intro d hd hk; simp only [List.mem_cons, List.not_mem_nil, or_false] at hd; rcases hd with rfl | rfl <;> first | exact ⟨rfl, rfl⟩ | exact absurd hk (by simp)) (by rfl)⟩
    simp only [Act.put, List.setIfInBounds_toArray, List.set_cons_zero, List.set_cons_succ]
    apply wpEff2_cons
    focus
      intro B L wz hL hD hC
      obtain ⟨F', h1, h2, h3, h4, h5⟩ := hC.call 1 _ rfl hL (hD 16 (by kernel_rfl)) (.inr ⟨0, _, rfl, rfl, hD 11 (by kernel_rfl)⟩) (by rfl) (by rfl)
      have hfr := hC.fr
      refine .inl ⟨by rfl, ?_⟩
      unfold effAt
      go_simp
      refine (wk_flags wz F' g _ h1 (B 16).1 2 [x.is, x.commit] #[.bool x.is, .bool x.commit] h2 h3 rfl rfl (by omega) (by simp [callsB]; omega)).mono ?_
      rintro e w9 ⟨rfl, ht⟩
      exact ⟨rfl, h5 _ (by simpa using ht)⟩
    simp only [Act.put, List.setIfInBounds_toArray, List.set_cons_zero, List.set_cons_succ]
    refine wpEff2_nil fun B w11 hC5 => ?_
    have st1 := WrTo.trans f1 n1 (hC5.done (by intro d hd; simp only [List.mem_cons, List.not_mem_nil, or_false] at hd; rcases hd with rfl | rfl <;> rfl))
    have M0 : (([] ++ callsB [⟨10, 11, 3, #[I64 x.err, I64 x.nm.1, I64 x.nm.2], encAll [x.err, x.nm.1, x.nm.2]⟩, ⟨16, 17, 4, #[.bool x.is, .bool x.commit], flagB x.is ++ flagB x.commit⟩])).length ≤ 100 := by simp [callsB, flagB]; omega
    clear hC5 hF h1 f1 n1
    obtain ⟨C2, h2, f2, n2⟩ := st1
    obtain ⟨y0, y1, y2, y3, y4, y5, y6, y7, y8, ys⟩ := hS _ f2
    have k2 := oreads_any w11 C2 _ g ([] ++ callsB [⟨10, 11, 3, #[I64 x.err, I64 x.nm.1, I64 x.nm.2], encAll [x.err, x.nm.1, x.nm.2]⟩, ⟨16, 17, 4, #[.bool x.is, .bool x.commit], flagB x.is ++ flagB x.commit⟩]) h2 p.r p.cr x.reads (hi3.reads.fr f2 (fun k hk => by omega)) (hAp w11 C2 f2 n2) (rdgOks_sm hsm.reads.2) hsm.reads.1 (by omega)
    go_upto_region 6 with (go_at_call 41; refine k2.mono ?_; rintro e w12 ⟨rfl, t2⟩)
    have st2 := WrTo.trans f2 n2 t2
    clear k2 y0 y1 y2 y3 y4 y5 y6 y7 y8 ys
    obtain ⟨C5, h5, f5, n5⟩ := st2
    obtain ⟨bs0, hbs0⟩ : ∃ bs0, (([] ++ callsB [⟨10, 11, 3, #[I64 x.err, I64 x.nm.1, I64 x.nm.2], encAll [x.err, x.nm.1, x.nm.2]⟩, ⟨16, 17, 4, #[.bool x.is, .bool x.commit], flagB x.is ++ flagB x.commit⟩]) ++ (enc x.reads.length ++ rdgsB x.reads)) = bs0 := ⟨_, rfl⟩
    rw [hbs0] at h5
    have hb0 : bs0.length ≤ 1000000 := by rw [← hbs0]; rw [List.length_append]; simp only [List.length_append] at M0 ⊢; omega
    have hst := WrD.start (cl := [⟨6, 7, 3, #[I64 x.scheme, I64 x.stage], encAll [x.scheme, x.stage]⟩, ⟨10, 11, 22, #[.slice p.b x.bytes.length p.cb], rowB x.bytes⟩]) (dk := 12) h5 (fun _ => (0, none))
    have hF : ∀ wz, Fr C5 w12 wz → Fr (· = g) W3 wz := fun wz f => f5.trans f n5
    have hby : ∀ wz, Fr C5 w12 wz → Sl wz (fun j => j < w.heap.size ∧ F j) p.b (x.bytes.map B8) := fun wz f => hi3.bytes.fr (hF wz f) (fun k hk => by omega)
    have hap : ∀ wz F', Fr C5 w12 wz → (∀ k, F' k → C5 k ∨ w12.heap.size ≤ k) → Apart wz (fun j => j < w.heap.size ∧ F j) F' := fun wz F' f n => hAp wz F' (hF wz f) (fun k hk => (n k hk).elim (n5 k) (fun h => .inr (Nat.le_trans f5.size h)))
    have hr4 : ∀ z ∈ [x.scheme, x.stage], Right z := by
      have := hsm.scheme
      have := hsm.stage
      intro z hz
      simp only [List.mem_cons, List.not_mem_nil, or_false] at hz
      rcases hz with rfl | rfl <;> exact int_right _ (by omega) (by omega)
    have M1 := encAll_le [x.scheme, x.stage]
    simp only [List.length_cons, List.length_nil] at M1
    have M4 := rowB_most x.bytes
    have M7 := hsm.bytes
    have M8 : (bs0 ++ callsB [⟨6, 7, 3, #[I64 x.scheme, I64 x.stage], encAll [x.scheme, x.stage]⟩, ⟨10, 11, 22, #[.slice p.b x.bytes.length p.cb], rowB x.bytes⟩]).length ≤ 2000000 := by simp [callsB]; omega
    obtain ⟨N, hN⟩ : ∃ N, (bs0 ++ callsB [⟨6, 7, 3, #[I64 x.scheme, I64 x.stage], encAll [x.scheme, x.stage]⟩, ⟨10, 11, 22, #[.slice p.b x.bytes.length p.cb], rowB x.bytes⟩]).length = N := ⟨_, rfl⟩
    have hdn : ∀ wz F', IsWr wz F' g (W8 (bs0 ++ callsB [⟨6, 7, 3, #[I64 x.scheme, I64 x.stage], encAll [x.scheme, x.stage]⟩, ⟨10, 11, 22, #[.slice p.b x.bytes.length p.cb], rowB x.bytes⟩])) → Calls Tryz.prog 44 #[.pointer (some ⟨g, 0, none⟩)] wz fun e w' => ∃ A c, e = .returned (.tuple #[.slice A N c, .int .i64 0]) ∧ Own w' 5 1 A (bs0 ++ callsB [⟨6, 7, 3, #[I64 x.scheme, I64 x.stage], encAll [x.scheme, x.stage]⟩, ⟨10, 11, 22, #[.slice p.b x.bytes.length p.cb], rowB x.bytes⟩]).length c ((bs0 ++ callsB [⟨6, 7, 3, #[I64 x.scheme, I64 x.stage], encAll [x.scheme, x.stage]⟩, ⟨10, 11, 22, #[.slice p.b x.bytes.length p.cb], rowB x.bytes⟩]).map B8) ∧ Nw wz w' ∧ ∀ k, inA A k → wz.heap.size ≤ k := fun wz F' h => by
      have := done_ok wz F' g _ h rfl (Nat.le_trans M8 (by decide))
      rw [← hN]
      exact this
    have HN := Lib.hid hN
    have HB := Lib.hid hbs0
    clear hN
    clear hbs0 L3 L5 L7 L8 her hnm
    refine wp_region_eff2 _ _ (by kernel_rfl) (by kernel_rfl) hst ?_
    clear hst
    apply wpEff2_cons
    focus
      intro B L wz hL hD hC
      refine .inl ⟨by rfl, ?_⟩
      obtain ⟨y0, y1, y2, y3, y4, y5, y6, y7, y8, ys⟩ := hS wz (hF wz hC.fr)
      unfold effAt
      go_simp
      exact ⟨rfl, hC.keep _ (by rfl)⟩
    simp only [Act.put, List.setIfInBounds_toArray, List.set_cons_zero, List.set_cons_succ]
    apply wpEff2_cons
    focus
      intro B L wz hL hD hC
      refine .inl ⟨by rfl, ?_⟩
      obtain ⟨y0, y1, y2, y3, y4, y5, y6, y7, y8, ys⟩ := hS wz (hF wz hC.fr)
      unfold effAt
      go_simp
      exact ⟨rfl, hC.keep _ (by rfl)⟩
    simp only [Act.put, List.setIfInBounds_toArray, List.set_cons_zero, List.set_cons_succ]
    apply wpEff2_cons
    focus
      intro B L wz hL hD hC
      refine .inl ⟨by rfl, ?_⟩
      obtain ⟨y0, y1, y2, y3, y4, y5, y6, y7, y8, ys⟩ := hS wz (hF wz hC.fr)
      unfold effAt
      go_simp
      exact ⟨rfl, hC.keep _ (by rfl)⟩
    simp only [Act.put, List.setIfInBounds_toArray, List.set_cons_zero, List.set_cons_succ]
    apply wpEff2_cons
    focus
      intro B L wz hL hD hC
      refine .inl ⟨by rfl, ?_⟩
      obtain ⟨y0, y1, y2, y3, y4, y5, y6, y7, y8, ys⟩ := hS wz (hF wz hC.fr)
      unfold effAt
      go_simp
      exact ⟨rfl, hC.keep _ (by rfl)⟩
    simp only [Act.put, List.setIfInBounds_toArray, List.set_cons_zero, List.set_cons_succ]
    apply wpEff2_cons
    focus
      intro B L wz hL hD hC
      refine .inl ⟨by rfl, ?_⟩
      obtain ⟨y0, y1, y2, y3, y4, y5, y6, y7, y8, ys⟩ := hS wz (hF wz hC.fr)
      unfold effAt
      go_simp
      exact ⟨rfl, hC.keep _ (by rfl)⟩
    simp only [Act.put, List.setIfInBounds_toArray, List.set_cons_zero, List.set_cons_succ]
    apply wpEff2_cons
    focus
      intro B L wz hL hD hC
      refine .inl ⟨by rfl, ?_⟩
      obtain ⟨y0, y1, y2, y3, y4, y5, y6, y7, y8, ys⟩ := hS wz (hF wz hC.fr)
      unfold effAt
      go_simp
      exact ⟨rfl, hC.keep _ (by rfl)⟩
    simp only [Act.put, List.setIfInBounds_toArray, List.set_cons_zero, List.set_cons_succ]
    refine wpEff2_free (fun b => .slice (some ⟨b.1, 0, none⟩) 2 2) ?_ ?_
    focus
      intro B L wz hL hD hC
      refine .inl ⟨by rfl, ?_⟩
      unfold effAt2
      go_simp
      exact ⟨(wz.heap.size, none), rfl, hC.make 6 3 #[I64 x.scheme, I64 x.stage] (by intro d hd hk; simp only [List.mem_cons, List.not_mem_nil, or_false] at hd; rcases hd with rfl | rfl <;> first | exact ⟨rfl, rfl⟩ | exact absurd hk (by simp)) (by rfl)⟩
    simp only [Act.put, List.setIfInBounds_toArray, List.set_cons_zero, List.set_cons_succ]
    apply wpEff2_cons
    focus
      intro B L wz hL hD hC
      obtain ⟨F', h1, h2, h3, h4, h5⟩ := hC.call 0 _ rfl hL (hD 6 (by kernel_rfl)) (.inl rfl) (by rfl) (by rfl)
      have hfr := hC.fr
      refine .inl ⟨by rfl, ?_⟩
      unfold effAt
      go_simp
      refine (wk_nums wz F' g _ h1 (B 6).1 2 [x.scheme, x.stage] #[I64 x.scheme, I64 x.stage] h2 h3 rfl rfl (by omega) hr4 (by simp only [callsB, List.take_zero, List.map_nil, List.flatten_nil, List.append_nil]; omega)).mono ?_
      rintro e w9 ⟨rfl, ht⟩
      exact ⟨rfl, h5 _ (ht)⟩
    simp only [Act.put, List.setIfInBounds_toArray, List.set_cons_zero, List.set_cons_succ]
    apply wpEff2_cons
    focus
      intro B L wz hL hD hC
      refine .inl ⟨by rfl, ?_⟩
      obtain ⟨y0, y1, y2, y3, y4, y5, y6, y7, y8, ys⟩ := hS wz (hF wz hC.fr)
      unfold effAt
      go_simp
      exact ⟨rfl, hC.keep _ (by rfl)⟩
    simp only [Act.put, List.setIfInBounds_toArray, List.set_cons_zero, List.set_cons_succ]
    apply wpEff2_cons
    focus
      intro B L wz hL hD hC
      refine .inl ⟨by rfl, ?_⟩
      obtain ⟨y0, y1, y2, y3, y4, y5, y6, y7, y8, ys⟩ := hS wz (hF wz hC.fr)
      unfold effAt
      go_simp
      exact ⟨rfl, hC.keep _ (by rfl)⟩
    simp only [Act.put, List.setIfInBounds_toArray, List.set_cons_zero, List.set_cons_succ]
    refine wpEff2_free (fun b => .slice (some ⟨b.1, 0, none⟩) 1 1) ?_ ?_
    focus
      intro B L wz hL hD hC
      refine .inl ⟨by rfl, ?_⟩
      unfold effAt2
      go_simp
      exact ⟨(wz.heap.size, none), rfl, hC.make 10 22 #[.slice p.b x.bytes.length p.cb] (by intro d hd hk; simp only [List.mem_cons, List.not_mem_nil, or_false] at hd; rcases hd with rfl | rfl <;> first | exact ⟨rfl, rfl⟩ | exact absurd hk (by simp)) (by rfl)⟩
    simp only [Act.put, List.setIfInBounds_toArray, List.set_cons_zero, List.set_cons_succ]
    apply wpEff2_cons
    focus
      intro B L wz hL hD hC
      obtain ⟨F', h1, h2, h3, h4, h5⟩ := hC.call 1 _ rfl hL (hD 10 (by kernel_rfl)) (.inr ⟨0, _, rfl, rfl, hD 7 (by kernel_rfl)⟩) (by rfl) (by rfl)
      have hfr := hC.fr
      refine .inl ⟨by rfl, ?_⟩
      unfold effAt
      go_simp
      refine (wk_row wz F' _ g _ h1 (B 10).1 p.b p.cb x.bytes h2 h3 (hby wz hfr) (hap wz F' hfr h4) (by omega) hi3.cb.1 hi3.cb.2 (by simp [callsB]; omega)).mono ?_
      rintro e w9 ⟨rfl, ht⟩
      exact ⟨rfl, h5 _ (ht)⟩
    simp only [Act.put, List.setIfInBounds_toArray, List.set_cons_zero, List.set_cons_succ]
    refine wpEff2_free (fun b => .tuple #[.slice b.2 N b.1, .int .i64 0]) ?_ ?_
    focus
      intro B L wz hL hD hC
      obtain ⟨F', h1, h2⟩ := hC.fin 1 _ rfl rfl (hD 11 (by kernel_rfl)) (by rfl)
      refine .inl ⟨by rfl, ?_⟩
      unfold effAt2
      go_simp
      refine (hdn wz F' h1).mono ?_
      rintro e w9 ⟨A9, c9, rfl, ho9, hf9, hA9⟩
      exact ⟨(c9, A9), rfl, h2 A9 c9 w9 ho9 hf9 hA9⟩
    simp only [Act.put, List.setIfInBounds_toArray, List.set_cons_zero, List.set_cons_succ]
    refine wpEff2_dep (fun B => .slice (B 12).2 N (B 12).1) (fun B B2 h => by have e := h 12 (by kernel_rfl); simp only [e]) ?_ ?_
    focus
      intro B L wz hL hD hC
      refine .inl ⟨by rfl, ?_⟩
      unfold effAt
      go_simp
      exact ⟨rfl, hC.keep _ (by rfl)⟩
    simp only [Act.put, List.setIfInBounds_toArray, List.set_cons_zero, List.set_cons_succ]
    apply wpEff2_cons
    focus
      intro B L wz hL hD hC
      refine .inl ⟨by rfl, ?_⟩
      obtain ⟨y0, y1, y2, y3, y4, y5, y6, y7, y8, ys⟩ := hS wz (hF wz hC.fr)
      unfold effAt
      go_simp
      exact ⟨rfl, hC.keep _ (by rfl)⟩
    simp only [Act.put, List.setIfInBounds_toArray, List.set_cons_zero, List.set_cons_succ]
    refine wpEff2_dep (fun B => .slice (B 12).2 N (B 12).1) (fun B B2 h => by have e := h 12 (by kernel_rfl); simp only [e]) ?_ ?_
    focus
      intro B L wz hL hD hC
      refine .inl ⟨by rfl, ?_⟩
      unfold effAt
      go_simp
      exact ⟨rfl, hC.keep _ (by rfl)⟩
    simp only [Act.put, List.setIfInBounds_toArray, List.set_cons_zero, List.set_cons_succ]
    apply wpEff2_cons
    focus
      intro B L wz hL hD hC
      refine .inl ⟨by rfl, ?_⟩
      obtain ⟨y0, y1, y2, y3, y4, y5, y6, y7, y8, ys⟩ := hS wz (hF wz hC.fr)
      unfold effAt
      go_simp
      exact ⟨rfl, hC.keep _ (by rfl)⟩
    simp only [Act.put, List.setIfInBounds_toArray, List.set_cons_zero, List.set_cons_succ]
    refine wpEff2_nil fun B wz hC5 => ?_
    obtain ⟨ho, hA, hf⟩ := hC5.told rfl
    have e : bs0 ++ callsB [⟨6, 7, 3, #[I64 x.scheme, I64 x.stage], encAll [x.scheme, x.stage]⟩, ⟨10, 11, 22, #[.slice p.b x.bytes.length p.cb], rowB x.bytes⟩] = ansB x := by
      rw [← HB.out]
      simp [callsB, ansB]
    have e2 := HN.out
    rw [e2] at ho
    have HH := Lib.hid (And.intro ho (And.intro hA (And.intro hf (And.intro e e2))))
    clear ho hA hf e e2 hC5
    go_wp2_with fail
    go_ret2
    obtain ⟨ho, hA, hf, e, e2⟩ := HH.out
    rw [e] at e2 ho
    refine ⟨(B 12).2, (B 12).1, by rw [e2]; rfl, by rw [e2]; exact ho, Q3.trans (hF wz hf) (fun k hk => .inr (by omega)), fun k hk => ?_⟩
    have h1 := hA k hk
    have h2 := f5.size
    have h3 := Q3.size
    omega
end Go.Proofs.YtkjnlhidnkbelaaGreatDoor

namespace Go.Proofs.YtkjnlhidnkbelaaGreatDoor
open Go Go.RowKit

theorem w_div8 (a d : Nat) (ha : a ≤ 9223372036854775807) (hd : a / 8 = d) : wrap64 ((a : Int) / 8) = (d : Int) := by
  subst hd; unfold wrap64; omega
theorem w_add (a b m : Nat) (h : a + b = m) (hm : m ≤ 9000000000000000000) : wrap64 ((a : Int) + (b : Int)) = (m : Int) := by
  subst h; unfold wrap64; omega
theorem d8_le (a d : Nat) (ha : a ≤ 9223372036854775807) (hd : a / 8 = d) : d ≤ 1152921504606846976 := by omega
def ActSmall (a : ActT) : Prop := a.key.length ≤ 40007 ∧ a.val.length ≤ 40007
theorem small8 (n a b d e : Nat) (hd : a / 8 = d) (he : b / 8 = e) (h : n + 1 + d + e ≤ 5000) : a ≤ 40007 ∧ b ≤ 40007 := by omega
theorem sum8 (n a b m p q : Nat) (hn : n ≤ 5000) (ha : a ≤ 1152921504606846976) (hb : b ≤ 1152921504606846976) (h0 : n + 1 = q) (h1 : q + a = m) (h2 : m + b = p) : q ≤ 4000000000000000000 ∧ m ≤ 4000000000000000000 ∧ p ≤ 4000000000000000000 := by omega
theorem ao_step (n a b : Nat) (hn : n ≤ 5000) (ha : a ≤ 9223372036854775807) (hb : b ≤ 9223372036854775807) :
    wrap64 (wrap64 ((n : Int) + 1 + wrap64 ((a : Int) / 8)) + wrap64 ((b : Int) / 8)) = ((n + 1 + a / 8 + b / 8 : Nat) : Int) ∧ n + 1 + a / 8 + b / 8 ≤ 4000000000000000000 ∧ (n + 1 + a / 8 + b / 8 ≤ 5000 → a ≤ 40007 ∧ b ≤ 40007) := by
  obtain ⟨d, hd⟩ : ∃ d, a / 8 = d := ⟨_, rfl⟩
  obtain ⟨e, he⟩ : ∃ e, b / 8 = e := ⟨_, rfl⟩
  have h1 := d8_le a d ha hd
  have h2 := d8_le b e hb he
  have h3 := sum8 n d e _ _ _ hn h1 h2 rfl rfl rfl
  have h4 : ((n : Int) + 1) = ((n + 1 : Nat) : Int) := by omega
  rw [w_div8 a d ha hd, w_div8 b e hb he, h4, w_add (n + 1) d _ rfl (Nat.le_trans h3.2.1 (by decide)), w_add (n + 1 + d) e _ rfl (Nat.le_trans h3.2.2 (by decide)), hd, he]
  exact ⟨rfl, h3.2.2, small8 n a b d e hd he⟩
def AoRel (w : World) (l : List ActT) (n i : Value) (wr : World) : Prop :=
  ∃ j N : Nat, j ≤ l.length ∧ i = .int .i64 j ∧ n = .int .i64 N ∧ j ≤ N ∧ N ≤ 4000000000000000000 ∧ (N ≤ 5000 → ∀ x (h : x < l.length), x < j → ActSmall l[x]) ∧ Nw w wr
def AoTo (w : World) (l : List ActT) (e : Ending) (w' : World) : Prop := ∃ N : Nat, e = .returned (.int .i64 N) ∧ N ≤ 4000000000000000000 ∧ (N ≤ 5000 → l.length ≤ 5000 ∧ ∀ a ∈ l, ActSmall a) ∧ Nw w w'
set_option maxRecDepth 100000 in
set_option maxHeartbeats 4000000 in
theorem actsOf_any (w : World) (F : Nat → Prop) (A : Option Addr) (c : Nat) (l : List ActT) (hs : Sl w F A (actsCells l)) (hl : l.length ≤ 3000000000000) (hz : ActSz l) :
    Calls Tryz.prog 54 #[.slice A l.length c, .int .i64 5000] w fun e w' => AoTo w l e w' := by
  go_enter Tryz.func54, Tryz.ntmps54
  go_wp2_with fail
  go_loopw [5, 6] (fun n i wx => AoRel w l n i wx) (fun n i _ => l.length - (intOf i).toNat)
  case atStart => exact ⟨0, 0, Nat.zero_le _, rfl, rfl, Nat.le_refl _, by omega, fun _ _ _ h => by omega, Fr.refl _ _⟩
  case round =>
    obtain ⟨j, N, hj, rfl, rfl, hlN, hN, hsm, hq⟩ := hrel
    have HSM := Lib.hid hsm
    clear hsm
    by_cases hlt : j < l.length
    · have hi0 : (j : Int) < (l.length : Int) := by omega
      by_cases h5 : N ≤ 5000
      · have hi1 : (N : Int) ≤ 5000 := by omega
        obtain ⟨b, o, rfl, _, r0, r1, r2, r3⟩ := (hs.fr hq (fun _ _ h => h)).act hlt
        have hzk := hz _ (List.getElem_mem hlt)
        have HG := Lib.hid (ao_step N l[j].key.length l[j].val.length h5 (Nat.le_trans hzk.2.1 (by decide)) (Nat.le_trans hzk.2.2 (by decide)))
        clear hzk
        go_wp2_with fail
        go_quiet (fail)
        go_wp2_with fail
        go_roundw
        case rel =>
          obtain ⟨g1, g2, g3⟩ := HG.out
          refine ⟨j + 1, N + 1 + l[j].key.length / 8 + l[j].val.length / 8, hlt, by go_num, congrArg (Value.int .i64) g1, Nat.le_trans (Nat.succ_le_succ hlN) (Nat.le_trans (Nat.le_add_right _ _) (Nat.le_add_right _ _)), g2, fun h x hx hxj => ?_, hq.drewN _⟩
          rcases Nat.lt_or_ge x j with h4 | h4
          · exact HSM.out h5 x hx h4
          · obtain rfl : x = j := Nat.le_antisymm (Nat.le_of_lt_succ hxj) h4
            exact g3 h
        case measure => simp [intOf]; omega
      · have hi1 : ¬ (N : Int) ≤ 5000 := by omega
        have hi2 : decide ((N : Int) ≤ 5000) = false := decide_eq_false hi1
        go_wp2_with fail
        go_ret
        exact ⟨N, rfl, hN, fun h => absurd h h5, hq⟩
    · have hi0 : ¬ (j : Int) < (l.length : Int) := by omega
      go_wp2_with fail
      go_ret
      refine ⟨N, rfl, hN, fun h => ⟨by omega, fun a ha => ?_⟩, hq⟩
      obtain ⟨x, hx, rfl⟩ := List.mem_iff_getElem.1 ha
      exact HSM.out h x hx (by omega)
def Great22 (w : World) (l : List ActT) (nr nb ns : Nat) (e : Ending) (w' : World) : Prop := ∃ b, e = .returned (.bool b) ∧ (b = false → (l.length ≤ 5000 ∧ ∀ a ∈ l, ActSmall a) ∧ nr ≤ 5000 ∧ nb ≤ 5000 ∧ ns ≤ 5000) ∧ Nw w w'
set_option maxRecDepth 100000 in
set_option maxHeartbeats 4000000 in
theorem great22_any (w : World) (F : Nat → Prop) (A Ar Ab : Option Addr) (c nr cr nb cb : Nat) (l : List ActT) (lo hi : List UInt8) (hs : Sl w F A (actsCells l)) (hl : l.length ≤ 3000000000000) (hz : ActSz l) (hlo : lo.length ≤ 140737488355328) (hhi : hi.length ≤ 140737488355328) :
    Calls Tryz.prog 14 #[.slice A l.length c, .slice Ar nr cr, .slice Ab nb cb, .agg #[StrV lo, StrV hi]] w fun e w' => Great22 w l nr nb (lo.length + hi.length) e w' := by
  obtain ⟨W0, hW0⟩ : ∃ W0, W0 = w.alloc (.cells #[StrV lo, StrV hi] 29) := ⟨_, rfl⟩
  have q0 : Nw w W0 := by rw [hW0]; exact (Fr.refl (fun _ => False) w).alloc _
  have x0 : Blk W0 w.heap.size 29 #[StrV lo, StrV hi] := by rw [hW0]; exact Blk.new w _ _
  have hs0 := str_size lo
  have hs1 := str_size hi
  have hcon := actsOf_any W0 F A c l (hs.fr q0 (fun _ _ h => h)) hl hz
  have hS : ∀ w1, Nw W0 w1 → w1.cell? ⟨w.heap.size, 0, none⟩ = some (.string ⟨lo.toArray⟩) ∧ w1.cell? ⟨w.heap.size, 1, none⟩ = some (.string ⟨hi.toArray⟩) := fun w1 f => by
    have b := x0.fr f (fun h => h)
    exact ⟨by simpa using b.cell 0, by simpa using b.cell 1⟩
  have HW0 := Lib.hid hW0
  show Calls Tryz.prog 14 #[.slice A l.length c, .slice Ar nr cr, .slice Ab nb cb, .agg #[.string ⟨lo.toArray⟩, .string ⟨hi.toArray⟩]] w fun e w' => _
  have HW0 : Hid (W0 = w.alloc (.cells #[.string ⟨lo.toArray⟩, .string ⟨hi.toArray⟩] 29)) := HW0
  generalize (⟨lo.toArray⟩ : ByteArray) = slo at hs0 hS HW0 ⊢
  generalize (⟨hi.toArray⟩ : ByteArray) = shi at hs1 hS HW0 ⊢
  clear hW0 x0 hs
  go_enter Tryz.func14, Tryz.ntmps14
  go_upto_region 1 with (fail)
  rw [← HW0.out]
  go_wp2_with fail
  refine hcon.mono ?_
  rintro e w1 ⟨N, rfl, hN, hNf, q1⟩
  obtain ⟨k0, k1⟩ := hS w1 q1
  have HN := Lib.hid hNf
  have HQ := Lib.hid (q0.tr q1)
  clear hNf hcon
  by_cases h1 : (5000 : Int) < (N : Int)
  · have d1 : decide ((5000 : Int) < (N : Int)) = true := decide_eq_true h1
    go_wp2_with fail
    go_ret
    exact ⟨true, rfl, (fun h => by cases h), HQ.out⟩
  · have d1 : decide ((5000 : Int) < (N : Int)) = false := decide_eq_false h1
    by_cases h2 : (5000 : Int) < (nr : Int)
    · have d2 : decide ((5000 : Int) < (nr : Int)) = true := decide_eq_true h2
      go_wp2_with fail
      go_ret
      exact ⟨true, rfl, (fun h => by cases h), HQ.out⟩
    · have d2 : decide ((5000 : Int) < (nr : Int)) = false := decide_eq_false h2
      by_cases h3 : (5000 : Int) < (nb : Int)
      · have d3 : decide ((5000 : Int) < (nb : Int)) = true := decide_eq_true h3
        go_wp2_with fail
        go_ret
        exact ⟨true, rfl, (fun h => by cases h), HQ.out⟩
      · have d3 : decide ((5000 : Int) < (nb : Int)) = false := decide_eq_false h3
        go_wp2_with fail
        go_ret
        refine ⟨_, rfl, fun h => ⟨HN.out (by omega), by omega, by omega, ?_⟩, HQ.out⟩
        simp at h
        omega
end Go.Proofs.YtkjnlhidnkbelaaGreatDoor
