/- Lemmas of the walks: OxC. (Laid together by shake.py.) -/
import Derived.Test.YtkjnlhidnkbelaaGreatDoorOz14
import Derived.Test.YtkjnlhidnkbelaaGreatDoorOz19
import Derived.Test.YtkjnlhidnkbelaaGreatDoorOz20
set_option linter.unusedVariables false
set_option linter.unusedSimpArgs false
namespace Go.Proofs.YtkjnlhidnkbelaaGreatDoor
open Go Go.RowKit
set_option linter.unusedVariables false
set_option linter.unusedSimpArgs false
theorem tellB_out {W w w2 : World} {bs : List UInt8} {v : Value} (q : Nw W w) (h : TellB w bs v w2) : ∃ b : Nat × Option Addr, v = .slice b.2 bs.length b.1 ∧ Nw w w2 ∧ Sl w2 (fun j => W.heap.size ≤ j) b.2 (bs.map B8) ∧ bs.length ≤ b.1 ∧ b.1 ≤ maxLen := by
  obtain ⟨b, h1, h2, h3, h4⟩ := h
  exact ⟨b, h1, h2, h3.mono (fun k hk _ => Nat.le_trans q.size hk), h4⟩
/-- What the document's 'Put' leaves. -/
def RPutTo (w : World) (r : Option (List UInt8)) (e : Ending) (w' : World) : Prop :=
  match r with
  | none => e = .returned (.tuple #[.slice none 0 0, .int .i64 2]) ∧ Nw w w'
  | some bs => ∃ b : Nat × Option Addr, e = .returned (.tuple #[.slice b.2 bs.length b.1, .int .i64 0]) ∧ Nw w w' ∧ Sl w' (fun j => w.heap.size ≤ j) b.2 (bs.map B8) ∧ bs.length ≤ b.1 ∧ b.1 ≤ maxLen
set_option maxRecDepth 100000 in
set_option maxHeartbeats 8000000 in
theorem xput_any (w : World) (F : Nat → Prop) (x : OrdF) (p : Pl) (hi : OrdIn w F x p) (hz : OrdSz x) :
    Calls Tryz.prog 27 #[.agg (ofA (I64 x.kind) x p)] w fun e w' => RPutTo w (if ordOk x = true then some (ordB x) else none) e w' := by
  obtain ⟨W00, hW00⟩ : ∃ W00, W00 = w.alloc (.cells (ofA (I64 x.kind) x p) 55) := ⟨_, rfl⟩
  have q00 : Nw w W00 := by rw [hW00]; exact (Fr.refl (fun _ => False) w).alloc _
  have x00 : Blk W00 w.heap.size 55 (ofA (I64 x.kind) x p) := by rw [hW00]; exact Blk.new w _ _
  have hcon := rright22_any W00 F x p (hi.fr q00 (fun _ _ h => h)) hz
  have HW := Lib.hid hW00
  clear hW00
  cases hok : ordOk x with
  | false =>
    rw [hok] at hcon
    rw [if_neg (by simp)]
    clear hok
    go_enter Tryz.func27, Tryz.ntmps27
    go_upto_region 1 with (fail)
    rw [← HW.out]
    go_wp2_with (first | (refine wpList_load_row rfl 55 _ rfl w.heap.size rfl 55 _ (0, 0) _ x00 Tryz.underlying55 rfl rord_size ?_) | (go_at_call 28; refine hcon.mono ?_; rintro e w1 ⟨rfl, q2⟩))
    go_ret2
    exact ⟨rfl, q00.tr q2⟩
  | true =>
    have hsm := ordOk_sm hok
    rw [hok] at hcon
    rw [if_pos rfl]
    clear hok
    go_enter Tryz.func27, Tryz.ntmps27
    go_upto_region 1 with (fail)
    rw [← HW.out]
    go_upto_region 3 with (first | (refine wpList_load_row rfl 55 _ rfl w.heap.size rfl 55 _ (0, 0) _ x00 Tryz.underlying55 rfl rord_size ?_) | (go_at_call 28; refine hcon.mono ?_; rintro e W0 ⟨rfl, q2⟩))
    have Q0 : Nw w W0 := q00.tr q2
    have x0 := x00.fr q2 (fun h => h)
    have Qd : Nw W0 W0.drew := (Fr.refl (fun _ => False) W0).drew
    have hS : ∀ w1, Nw W0.drew w1 → w1.cell? ⟨w.heap.size, 0, none⟩ = some (I64 x.kind) ∧ w1.cell? ⟨w.heap.size, 1, none⟩ = some (I64 x.nm.1) ∧ w1.cell? ⟨w.heap.size, 2, none⟩ = some (I64 x.nm.2) ∧ w1.cell? ⟨w.heap.size, 3, none⟩ = some (I64 x.epoch) ∧ w1.cell? ⟨w.heap.size, 4, none⟩ = some (.slice p.a x.acts.length p.ca) ∧ w1.cell? ⟨w.heap.size, 5, none⟩ = some (.bool x.commit) ∧ w1.cell? ⟨w.heap.size, 6, none⟩ = some (.slice p.r x.reads.length p.cr) ∧ w1.cell? ⟨w.heap.size, 7, none⟩ = some (I64 x.scheme) ∧ w1.cell? ⟨w.heap.size, 8, none⟩ = some (I64 x.stage) ∧ w1.cell? ⟨w.heap.size, 9, none⟩ = some (I64 x.to) ∧ w1.cell? ⟨w.heap.size, 10, none⟩ = some (StrV x.lo) ∧ w1.cell? ⟨w.heap.size, 11, none⟩ = some (StrV x.hi) ∧ w1.cell? ⟨w.heap.size, 12, none⟩ = some (.slice p.b x.bytes.length p.cb) := fun w1 f => by
      have a := (x0.fr Qd (fun h => h)).fr f (fun h => h)
      exact ⟨by simpa using a.cell 0, by simpa using a.cell 1, by simpa using a.cell 2, by simpa using a.cell 3, by simpa using a.cell 4, by simpa using a.cell 5, by simpa using a.cell 6, by simpa using a.cell 7, by simpa using a.cell 8, by simpa using a.cell 9, by simpa using a.cell 10, by simpa using a.cell 11, by simpa using a.cell 12⟩
    have hin : ∀ w1, Nw W0.drew w1 → OrdIn w1 F x p := fun w1 f => hi.fr ((Q0.tr Qd).tr f) (fun _ _ h => h)
    have e1 : encAll [x.kind, x.nm.1, x.nm.2, x.epoch] ++ ((enc x.acts.length ++ actsB x.acts) ++ (flagB x.commit ++ ((enc x.reads.length ++ rdgsB x.reads) ++ (encAll [x.scheme, x.stage, x.to] ++ (rowB x.lo ++ (rowB x.hi ++ (rowB x.bytes))))))) = ordB x := by simp [ordB]
    have l1 := fun wz b (hb : Blk wz b 3 #[I64 x.kind, I64 x.nm.1, I64 x.nm.2, I64 x.epoch]) => xnumbers_any wz (fun _ => True) (some ⟨b, 0, none⟩) 4 4 [x.kind, x.nm.1, x.nm.2, x.epoch] (blk_sl hb) rfl (by decide) (by
      intro z hz
      simp only [List.mem_cons, List.not_mem_nil, or_false] at hz
      have := hsm.kind
      have := hsm.nm
      have := hsm.epoch
      rcases hz with rfl | rfl | rfl | rfl <;> exact int_right _ (by omega) (by omega))
    have l2 := fun wz (f : Nw W0.drew wz) => xacts_any wz F p.a p.ca x.acts (hin wz f).acts hsm.acts_ hsm.acts.1
    have l3 := fun wz => xflag_any wz x.commit
    have l4 := fun wz (f : Nw W0.drew wz) => xtold_any wz F p.r p.cr x.reads (hin wz f).reads (rdgOks_sm hsm.reads.2) hsm.reads.1
    have l5 := fun wz b (hb : Blk wz b 3 #[I64 x.scheme, I64 x.stage, I64 x.to]) => xnumbers_any wz (fun _ => True) (some ⟨b, 0, none⟩) 3 3 [x.scheme, x.stage, x.to] (blk_sl hb) rfl (by decide) (by
      intro z hz
      simp only [List.mem_cons, List.not_mem_nil, or_false] at hz
      have := hsm.scheme
      have := hsm.stage
      have := hsm.to
      rcases hz with rfl | rfl | rfl <;> exact int_right _ (by omega) (by omega))
    have l6 := fun wz => xtext_any wz x.lo (by have := hsm.lo; omega)
    have l7 := fun wz => xtext_any wz x.hi (by have := hsm.hi; omega)
    have l8 := fun wz (f : Nw W0.drew wz) => xrow_any wz F p.b p.cb x.bytes (hin wz f).bytes (by have := hsm.bytes; omega)
    have zy1 := encAll_le [x.kind, x.nm.1, x.nm.2, x.epoch]
    have zy2 : (enc x.acts.length ++ actsB x.acts).length ≤ 9 + 3000 * x.acts.length := by
      have := enc_len x.acts.length
      have := acts_most x.acts hsm.acts_
      rw [List.length_append]
      omega
    have zy3 : (flagB x.commit).length = 1 := rfl
    have zy4 : (enc x.reads.length ++ rdgsB x.reads).length ≤ 9 + 3000 * x.reads.length := by
      have := enc_len x.reads.length
      have := rdgs_most x.reads (rdgOks_sm hsm.reads.2)
      rw [List.length_append]
      omega
    have zy5 := encAll_le [x.scheme, x.stage, x.to]
    have zy6 := rowB_most x.lo
    have zy7 := rowB_most x.hi
    have zy8 := rowB_most x.bytes
    obtain ⟨y1, hy1⟩ : ∃ y, encAll [x.kind, x.nm.1, x.nm.2, x.epoch] = y := ⟨_, rfl⟩
    rw [hy1] at e1
    rw [hy1] at zy1
    simp only [hy1] at l1
    obtain ⟨y2, hy2⟩ : ∃ y, (enc x.acts.length ++ actsB x.acts) = y := ⟨_, rfl⟩
    rw [hy2] at e1
    rw [hy2] at zy2
    simp only [hy2] at l2
    obtain ⟨y3, hy3⟩ : ∃ y, flagB x.commit = y := ⟨_, rfl⟩
    rw [hy3] at e1
    rw [hy3] at zy3
    simp only [hy3] at l3
    obtain ⟨y4, hy4⟩ : ∃ y, (enc x.reads.length ++ rdgsB x.reads) = y := ⟨_, rfl⟩
    rw [hy4] at e1
    rw [hy4] at zy4
    simp only [hy4] at l4
    obtain ⟨y5, hy5⟩ : ∃ y, encAll [x.scheme, x.stage, x.to] = y := ⟨_, rfl⟩
    rw [hy5] at e1
    rw [hy5] at zy5
    simp only [hy5] at l5
    obtain ⟨y6, hy6⟩ : ∃ y, rowB x.lo = y := ⟨_, rfl⟩
    rw [hy6] at e1
    rw [hy6] at zy6
    simp only [hy6] at l6
    obtain ⟨y7, hy7⟩ : ∃ y, rowB x.hi = y := ⟨_, rfl⟩
    rw [hy7] at e1
    rw [hy7] at zy7
    simp only [hy7] at l7
    obtain ⟨y8, hy8⟩ : ∃ y, rowB x.bytes = y := ⟨_, rfl⟩
    rw [hy8] at e1
    rw [hy8] at zy8
    simp only [hy8] at l8
    have hrl : rowsLen [y1, y2, y3, y4, y5, y6, y7, y8] ≤ 10000000 := by
      try simp only [List.length_cons, List.length_nil] at zy1 zy2 zy3 zy4 zy5 zy6 zy7 zy8
      simp only [rowsLen, List.map_cons, List.map_nil, List.sum_cons, List.sum_nil]
      have := hsm.bytes
      have := hsm.reads.1
      have := hsm.acts.1
      have := hsm.lo
      have := hsm.hi
      omega
    have lall := fun wz b cs (hb : Blk wz b 22 cs) (hrr : RowsV wz (fun _ => True) cs.toList [y1, y2, y3, y4, y5, y6, y7, y8]) => xall_any wz (fun _ => True) (some ⟨b, 0, none⟩) 8 cs.toList [y1, y2, y3, y4, y5, y6, y7, y8] (blk_sl hb) hrr (by simp) hrl
    obtain ⟨y, hy⟩ : ∃ y, ([y1, y2, y3, y4, y5, y6, y7, y8] : List (List UInt8)).flatten = y := ⟨_, rfl⟩
    simp only [hy] at lall
    have HY := Lib.hid (And.intro hy e1)
    clear hy e1 hrl x0 x00 hcon hi zy1 hy1 zy2 hy2 zy3 hy3 zy4 hy4 zy5 hy5 zy6 hy6 zy7 hy7 zy8 hy8
    have hlast : Lasts ([blkF W0.drew 10 3 #[I64 x.kind, I64 x.nm.1, I64 x.nm.2, I64 x.epoch], bytesF W0.drew 11 y1, bytesF W0.drew 14 y2, bytesF W0.drew 17 y3, bytesF W0.drew 20 y4, blkF W0.drew 27 3 #[I64 x.scheme, I64 x.stage, I64 x.to], bytesF W0.drew 28 y5, bytesF W0.drew 32 y6, bytesF W0.drew 36 y7, bytesF W0.drew 39 y8, rowsF W0.drew 40 22 [y1, y2, y3, y4, y5, y6, y7, y8] (fun _ => True), bytesF W0.drew 41 y]) := (by intro f hf; simp only [List.mem_cons, List.not_mem_nil, or_false] at hf; rcases hf with rfl | rfl | rfl | rfl | rfl | rfl | rfl | rfl | rfl | rfl | rfl | rfl <;> first | exact bytesF_lasts _ _ _ | exact blkF_lasts _ _ _ _ | exact rowsF_lasts _ _ _ _ _)
    refine wp_region_eff2 (RfC W0.drew ([blkF W0.drew 10 3 #[I64 x.kind, I64 x.nm.1, I64 x.nm.2, I64 x.epoch], bytesF W0.drew 11 y1, bytesF W0.drew 14 y2, bytesF W0.drew 17 y3, bytesF W0.drew 20 y4, blkF W0.drew 27 3 #[I64 x.scheme, I64 x.stage, I64 x.to], bytesF W0.drew 28 y5, bytesF W0.drew 32 y6, bytesF W0.drew 36 y7, bytesF W0.drew 39 y8, rowsF W0.drew 40 22 [y1, y2, y3, y4, y5, y6, y7, y8] (fun _ => True), bytesF W0.drew 41 y])) (fun _ => (0, none)) (by kernel_rfl) (by kernel_rfl) ⟨Fr.refl _ _, fun _ _ h => by cases h⟩ ?_
    apply wpEff2_cons
    focus
      intro B L wz hL hD hC
      refine .inl ⟨by rfl, ?_⟩
      obtain ⟨c_0, c_1, c_2, c_3, c_4, c_5, c_6, c_7, c_8, c_9, c_10, c_11, c_12⟩ := hS wz hC.nw
      unfold effAt
      go_simp
      exact ⟨rfl, hC.keep _ (by rfl)⟩
    simp only [Act.put, List.setIfInBounds_toArray, List.set_cons_zero, List.set_cons_succ]
    apply wpEff2_cons
    focus
      intro B L wz hL hD hC
      refine .inl ⟨by rfl, ?_⟩
      obtain ⟨c_0, c_1, c_2, c_3, c_4, c_5, c_6, c_7, c_8, c_9, c_10, c_11, c_12⟩ := hS wz hC.nw
      unfold effAt
      go_simp
      exact ⟨rfl, hC.keep _ (by rfl)⟩
    simp only [Act.put, List.setIfInBounds_toArray, List.set_cons_zero, List.set_cons_succ]
    apply wpEff2_cons
    focus
      intro B L wz hL hD hC
      refine .inl ⟨by rfl, ?_⟩
      obtain ⟨c_0, c_1, c_2, c_3, c_4, c_5, c_6, c_7, c_8, c_9, c_10, c_11, c_12⟩ := hS wz hC.nw
      unfold effAt
      go_simp
      exact ⟨rfl, hC.keep _ (by rfl)⟩
    simp only [Act.put, List.setIfInBounds_toArray, List.set_cons_zero, List.set_cons_succ]
    apply wpEff2_cons
    focus
      intro B L wz hL hD hC
      refine .inl ⟨by rfl, ?_⟩
      obtain ⟨c_0, c_1, c_2, c_3, c_4, c_5, c_6, c_7, c_8, c_9, c_10, c_11, c_12⟩ := hS wz hC.nw
      unfold effAt
      go_simp
      exact ⟨rfl, hC.keep _ (by rfl)⟩
    simp only [Act.put, List.setIfInBounds_toArray, List.set_cons_zero, List.set_cons_succ]
    apply wpEff2_cons
    focus
      intro B L wz hL hD hC
      refine .inl ⟨by rfl, ?_⟩
      obtain ⟨c_0, c_1, c_2, c_3, c_4, c_5, c_6, c_7, c_8, c_9, c_10, c_11, c_12⟩ := hS wz hC.nw
      unfold effAt
      go_simp
      exact ⟨rfl, hC.keep _ (by rfl)⟩
    simp only [Act.put, List.setIfInBounds_toArray, List.set_cons_zero, List.set_cons_succ]
    apply wpEff2_cons
    focus
      intro B L wz hL hD hC
      refine .inl ⟨by rfl, ?_⟩
      obtain ⟨c_0, c_1, c_2, c_3, c_4, c_5, c_6, c_7, c_8, c_9, c_10, c_11, c_12⟩ := hS wz hC.nw
      unfold effAt
      go_simp
      exact ⟨rfl, hC.keep _ (by rfl)⟩
    simp only [Act.put, List.setIfInBounds_toArray, List.set_cons_zero, List.set_cons_succ]
    apply wpEff2_cons
    focus
      intro B L wz hL hD hC
      refine .inl ⟨by rfl, ?_⟩
      obtain ⟨c_0, c_1, c_2, c_3, c_4, c_5, c_6, c_7, c_8, c_9, c_10, c_11, c_12⟩ := hS wz hC.nw
      unfold effAt
      go_simp
      exact ⟨rfl, hC.keep _ (by rfl)⟩
    simp only [Act.put, List.setIfInBounds_toArray, List.set_cons_zero, List.set_cons_succ]
    apply wpEff2_cons
    focus
      intro B L wz hL hD hC
      refine .inl ⟨by rfl, ?_⟩
      obtain ⟨c_0, c_1, c_2, c_3, c_4, c_5, c_6, c_7, c_8, c_9, c_10, c_11, c_12⟩ := hS wz hC.nw
      unfold effAt
      go_simp
      exact ⟨rfl, hC.keep _ (by rfl)⟩
    simp only [Act.put, List.setIfInBounds_toArray, List.set_cons_zero, List.set_cons_succ]
    apply wpEff2_cons
    focus
      intro B L wz hL hD hC
      refine .inl ⟨by rfl, ?_⟩
      obtain ⟨c_0, c_1, c_2, c_3, c_4, c_5, c_6, c_7, c_8, c_9, c_10, c_11, c_12⟩ := hS wz hC.nw
      unfold effAt
      go_simp
      exact ⟨rfl, hC.keep _ (by rfl)⟩
    simp only [Act.put, List.setIfInBounds_toArray, List.set_cons_zero, List.set_cons_succ]
    apply wpEff2_cons
    focus
      intro B L wz hL hD hC
      refine .inl ⟨by rfl, ?_⟩
      obtain ⟨c_0, c_1, c_2, c_3, c_4, c_5, c_6, c_7, c_8, c_9, c_10, c_11, c_12⟩ := hS wz hC.nw
      unfold effAt
      go_simp
      exact ⟨rfl, hC.keep _ (by rfl)⟩
    simp only [Act.put, List.setIfInBounds_toArray, List.set_cons_zero, List.set_cons_succ]
    refine wpEff2_free (fun b => .slice (some ⟨b.1, 0, none⟩) 4 4) ?_ ?_
    focus
      intro B L wz hL hD hC
      refine .inl ⟨by rfl, ?_⟩
      unfold effAt2
      go_simp
      exact ⟨(wz.heap.size, none), rfl, hC.put hlast ((Fr.refl (fun _ => False) wz).alloc _) _ _ (by intro f hf hk; simp only [List.mem_cons, List.not_mem_nil, or_false] at hf; rcases hf with rfl | rfl | rfl | rfl | rfl | rfl | rfl | rfl | rfl | rfl | rfl | rfl <;> first | exact ⟨Blk.new wz _ _, hC.nw.size⟩ | exact absurd hk (by simp [bytesF, blkF, rowsF]))⟩
    simp only [Act.put, List.setIfInBounds_toArray, List.set_cons_zero, List.set_cons_succ]
    refine wpEff2_free (fun b => .slice b.2 y1.length b.1) ?_ ?_
    focus
      intro B L wz hL hD hC
      have g0 := hC.get 0 _ rfl (hD 10 (by kernel_rfl))
      have hnw := hC.nw
      refine .inl ⟨by rfl, ?_⟩
      unfold effAt2
      go_simp
      refine ((l1 wz _ g0.1)).mono ?_
      rintro e w9 ⟨v, rfl, ho⟩
      obtain ⟨b, rfl, q9, f1, f2, f3⟩ := outB hnw ho
      exact ⟨b, rfl, hC.put hlast q9 _ b (by intro f hf hk; simp only [List.mem_cons, List.not_mem_nil, or_false] at hf; rcases hf with rfl | rfl | rfl | rfl | rfl | rfl | rfl | rfl | rfl | rfl | rfl | rfl <;> first | exact ⟨f1, f2, f3⟩ | exact absurd hk (by simp [bytesF, blkF, rowsF]))⟩
    simp only [Act.put, List.setIfInBounds_toArray, List.set_cons_zero, List.set_cons_succ]
    apply wpEff2_cons
    focus
      intro B L wz hL hD hC
      refine .inl ⟨by rfl, ?_⟩
      obtain ⟨c_0, c_1, c_2, c_3, c_4, c_5, c_6, c_7, c_8, c_9, c_10, c_11, c_12⟩ := hS wz hC.nw
      unfold effAt
      go_simp
      exact ⟨rfl, hC.keep _ (by rfl)⟩
    simp only [Act.put, List.setIfInBounds_toArray, List.set_cons_zero, List.set_cons_succ]
    apply wpEff2_cons
    focus
      intro B L wz hL hD hC
      refine .inl ⟨by rfl, ?_⟩
      obtain ⟨c_0, c_1, c_2, c_3, c_4, c_5, c_6, c_7, c_8, c_9, c_10, c_11, c_12⟩ := hS wz hC.nw
      unfold effAt
      go_simp
      exact ⟨rfl, hC.keep _ (by rfl)⟩
    simp only [Act.put, List.setIfInBounds_toArray, List.set_cons_zero, List.set_cons_succ]
    refine wpEff2_free (fun b => .slice b.2 y2.length b.1) ?_ ?_
    focus
      intro B L wz hL hD hC
      have hnw := hC.nw
      refine .inl ⟨by rfl, ?_⟩
      unfold effAt2
      go_simp
      refine ((l2 wz hnw)).mono ?_
      rintro e w9 ⟨v, rfl, ho⟩
      obtain ⟨b, rfl, q9, f1, f2, f3⟩ := tellB_out hnw ho
      exact ⟨b, rfl, hC.put hlast q9 _ b (by intro f hf hk; simp only [List.mem_cons, List.not_mem_nil, or_false] at hf; rcases hf with rfl | rfl | rfl | rfl | rfl | rfl | rfl | rfl | rfl | rfl | rfl | rfl <;> first | exact ⟨f1, f2, f3⟩ | exact absurd hk (by simp [bytesF, blkF, rowsF]))⟩
    simp only [Act.put, List.setIfInBounds_toArray, List.set_cons_zero, List.set_cons_succ]
    apply wpEff2_cons
    focus
      intro B L wz hL hD hC
      refine .inl ⟨by rfl, ?_⟩
      obtain ⟨c_0, c_1, c_2, c_3, c_4, c_5, c_6, c_7, c_8, c_9, c_10, c_11, c_12⟩ := hS wz hC.nw
      unfold effAt
      go_simp
      exact ⟨rfl, hC.keep _ (by rfl)⟩
    simp only [Act.put, List.setIfInBounds_toArray, List.set_cons_zero, List.set_cons_succ]
    apply wpEff2_cons
    focus
      intro B L wz hL hD hC
      refine .inl ⟨by rfl, ?_⟩
      obtain ⟨c_0, c_1, c_2, c_3, c_4, c_5, c_6, c_7, c_8, c_9, c_10, c_11, c_12⟩ := hS wz hC.nw
      unfold effAt
      go_simp
      exact ⟨rfl, hC.keep _ (by rfl)⟩
    simp only [Act.put, List.setIfInBounds_toArray, List.set_cons_zero, List.set_cons_succ]
    refine wpEff2_free (fun b => .slice b.2 y3.length b.1) ?_ ?_
    focus
      intro B L wz hL hD hC
      have hnw := hC.nw
      refine .inl ⟨by rfl, ?_⟩
      unfold effAt2
      go_simp
      refine ((l3 wz)).mono ?_
      rintro e w9 ⟨v, rfl, ho⟩
      obtain ⟨b, rfl, q9, f1, f2, f3⟩ := outB hnw ho
      exact ⟨b, rfl, hC.put hlast q9 _ b (by intro f hf hk; simp only [List.mem_cons, List.not_mem_nil, or_false] at hf; rcases hf with rfl | rfl | rfl | rfl | rfl | rfl | rfl | rfl | rfl | rfl | rfl | rfl <;> first | exact ⟨f1, f2, f3⟩ | exact absurd hk (by simp [bytesF, blkF, rowsF]))⟩
    simp only [Act.put, List.setIfInBounds_toArray, List.set_cons_zero, List.set_cons_succ]
    apply wpEff2_cons
    focus
      intro B L wz hL hD hC
      refine .inl ⟨by rfl, ?_⟩
      obtain ⟨c_0, c_1, c_2, c_3, c_4, c_5, c_6, c_7, c_8, c_9, c_10, c_11, c_12⟩ := hS wz hC.nw
      unfold effAt
      go_simp
      exact ⟨rfl, hC.keep _ (by rfl)⟩
    simp only [Act.put, List.setIfInBounds_toArray, List.set_cons_zero, List.set_cons_succ]
    apply wpEff2_cons
    focus
      intro B L wz hL hD hC
      refine .inl ⟨by rfl, ?_⟩
      obtain ⟨c_0, c_1, c_2, c_3, c_4, c_5, c_6, c_7, c_8, c_9, c_10, c_11, c_12⟩ := hS wz hC.nw
      unfold effAt
      go_simp
      exact ⟨rfl, hC.keep _ (by rfl)⟩
    simp only [Act.put, List.setIfInBounds_toArray, List.set_cons_zero, List.set_cons_succ]
    refine wpEff2_free (fun b => .slice b.2 y4.length b.1) ?_ ?_
    focus
      intro B L wz hL hD hC
      have hnw := hC.nw
      refine .inl ⟨by rfl, ?_⟩
      unfold effAt2
      go_simp
      refine ((l4 wz hnw)).mono ?_
      rintro e w9 ⟨v, rfl, ho⟩
      obtain ⟨b, rfl, q9, f1, f2, f3⟩ := tellB_out hnw ho
      exact ⟨b, rfl, hC.put hlast q9 _ b (by intro f hf hk; simp only [List.mem_cons, List.not_mem_nil, or_false] at hf; rcases hf with rfl | rfl | rfl | rfl | rfl | rfl | rfl | rfl | rfl | rfl | rfl | rfl <;> first | exact ⟨f1, f2, f3⟩ | exact absurd hk (by simp [bytesF, blkF, rowsF]))⟩
    simp only [Act.put, List.setIfInBounds_toArray, List.set_cons_zero, List.set_cons_succ]
    apply wpEff2_cons
    focus
      intro B L wz hL hD hC
      refine .inl ⟨by rfl, ?_⟩
      obtain ⟨c_0, c_1, c_2, c_3, c_4, c_5, c_6, c_7, c_8, c_9, c_10, c_11, c_12⟩ := hS wz hC.nw
      unfold effAt
      go_simp
      exact ⟨rfl, hC.keep _ (by rfl)⟩
    simp only [Act.put, List.setIfInBounds_toArray, List.set_cons_zero, List.set_cons_succ]
    apply wpEff2_cons
    focus
      intro B L wz hL hD hC
      refine .inl ⟨by rfl, ?_⟩
      obtain ⟨c_0, c_1, c_2, c_3, c_4, c_5, c_6, c_7, c_8, c_9, c_10, c_11, c_12⟩ := hS wz hC.nw
      unfold effAt
      go_simp
      exact ⟨rfl, hC.keep _ (by rfl)⟩
    simp only [Act.put, List.setIfInBounds_toArray, List.set_cons_zero, List.set_cons_succ]
    apply wpEff2_cons
    focus
      intro B L wz hL hD hC
      refine .inl ⟨by rfl, ?_⟩
      obtain ⟨c_0, c_1, c_2, c_3, c_4, c_5, c_6, c_7, c_8, c_9, c_10, c_11, c_12⟩ := hS wz hC.nw
      unfold effAt
      go_simp
      exact ⟨rfl, hC.keep _ (by rfl)⟩
    simp only [Act.put, List.setIfInBounds_toArray, List.set_cons_zero, List.set_cons_succ]
    apply wpEff2_cons
    focus
      intro B L wz hL hD hC
      refine .inl ⟨by rfl, ?_⟩
      obtain ⟨c_0, c_1, c_2, c_3, c_4, c_5, c_6, c_7, c_8, c_9, c_10, c_11, c_12⟩ := hS wz hC.nw
      unfold effAt
      go_simp
      exact ⟨rfl, hC.keep _ (by rfl)⟩
    simp only [Act.put, List.setIfInBounds_toArray, List.set_cons_zero, List.set_cons_succ]
    apply wpEff2_cons
    focus
      intro B L wz hL hD hC
      refine .inl ⟨by rfl, ?_⟩
      obtain ⟨c_0, c_1, c_2, c_3, c_4, c_5, c_6, c_7, c_8, c_9, c_10, c_11, c_12⟩ := hS wz hC.nw
      unfold effAt
      go_simp
      exact ⟨rfl, hC.keep _ (by rfl)⟩
    simp only [Act.put, List.setIfInBounds_toArray, List.set_cons_zero, List.set_cons_succ]
    apply wpEff2_cons
    focus
      intro B L wz hL hD hC
      refine .inl ⟨by rfl, ?_⟩
      obtain ⟨c_0, c_1, c_2, c_3, c_4, c_5, c_6, c_7, c_8, c_9, c_10, c_11, c_12⟩ := hS wz hC.nw
      unfold effAt
      go_simp
      exact ⟨rfl, hC.keep _ (by rfl)⟩
    simp only [Act.put, List.setIfInBounds_toArray, List.set_cons_zero, List.set_cons_succ]
    refine wpEff2_free (fun b => .slice (some ⟨b.1, 0, none⟩) 3 3) ?_ ?_
    focus
      intro B L wz hL hD hC
      refine .inl ⟨by rfl, ?_⟩
      unfold effAt2
      go_simp
      exact ⟨(wz.heap.size, none), rfl, hC.put hlast ((Fr.refl (fun _ => False) wz).alloc _) _ _ (by intro f hf hk; simp only [List.mem_cons, List.not_mem_nil, or_false] at hf; rcases hf with rfl | rfl | rfl | rfl | rfl | rfl | rfl | rfl | rfl | rfl | rfl | rfl <;> first | exact ⟨Blk.new wz _ _, hC.nw.size⟩ | exact absurd hk (by simp [bytesF, blkF, rowsF]))⟩
    simp only [Act.put, List.setIfInBounds_toArray, List.set_cons_zero, List.set_cons_succ]
    refine wpEff2_free (fun b => .slice b.2 y5.length b.1) ?_ ?_
    focus
      intro B L wz hL hD hC
      have g5 := hC.get 5 _ rfl (hD 27 (by kernel_rfl))
      have hnw := hC.nw
      refine .inl ⟨by rfl, ?_⟩
      unfold effAt2
      go_simp
      refine ((l5 wz _ g5.1)).mono ?_
      rintro e w9 ⟨v, rfl, ho⟩
      obtain ⟨b, rfl, q9, f1, f2, f3⟩ := outB hnw ho
      exact ⟨b, rfl, hC.put hlast q9 _ b (by intro f hf hk; simp only [List.mem_cons, List.not_mem_nil, or_false] at hf; rcases hf with rfl | rfl | rfl | rfl | rfl | rfl | rfl | rfl | rfl | rfl | rfl | rfl <;> first | exact ⟨f1, f2, f3⟩ | exact absurd hk (by simp [bytesF, blkF, rowsF]))⟩
    simp only [Act.put, List.setIfInBounds_toArray, List.set_cons_zero, List.set_cons_succ]
    apply wpEff2_cons
    focus
      intro B L wz hL hD hC
      refine .inl ⟨by rfl, ?_⟩
      obtain ⟨c_0, c_1, c_2, c_3, c_4, c_5, c_6, c_7, c_8, c_9, c_10, c_11, c_12⟩ := hS wz hC.nw
      unfold effAt
      go_simp
      exact ⟨rfl, hC.keep _ (by rfl)⟩
    simp only [Act.put, List.setIfInBounds_toArray, List.set_cons_zero, List.set_cons_succ]
    apply wpEff2_cons
    focus
      intro B L wz hL hD hC
      refine .inl ⟨by rfl, ?_⟩
      obtain ⟨c_0, c_1, c_2, c_3, c_4, c_5, c_6, c_7, c_8, c_9, c_10, c_11, c_12⟩ := hS wz hC.nw
      unfold effAt
      go_simp
      exact ⟨rfl, hC.keep _ (by rfl)⟩
    simp only [Act.put, List.setIfInBounds_toArray, List.set_cons_zero, List.set_cons_succ]
    apply wpEff2_cons
    focus
      intro B L wz hL hD hC
      refine .inl ⟨by rfl, ?_⟩
      obtain ⟨c_0, c_1, c_2, c_3, c_4, c_5, c_6, c_7, c_8, c_9, c_10, c_11, c_12⟩ := hS wz hC.nw
      unfold effAt
      go_simp
      exact ⟨rfl, hC.keep _ (by rfl)⟩
    simp only [Act.put, List.setIfInBounds_toArray, List.set_cons_zero, List.set_cons_succ]
    refine wpEff2_free (fun b => .slice b.2 y6.length b.1) ?_ ?_
    focus
      intro B L wz hL hD hC
      have hnw := hC.nw
      refine .inl ⟨by rfl, ?_⟩
      unfold effAt2
      go_simp
      refine ((l6 wz)).mono ?_
      rintro e w9 ⟨v, rfl, ho⟩
      obtain ⟨b, rfl, q9, f1, f2, f3⟩ := outB hnw ho
      exact ⟨b, rfl, hC.put hlast q9 _ b (by intro f hf hk; simp only [List.mem_cons, List.not_mem_nil, or_false] at hf; rcases hf with rfl | rfl | rfl | rfl | rfl | rfl | rfl | rfl | rfl | rfl | rfl | rfl <;> first | exact ⟨f1, f2, f3⟩ | exact absurd hk (by simp [bytesF, blkF, rowsF]))⟩
    simp only [Act.put, List.setIfInBounds_toArray, List.set_cons_zero, List.set_cons_succ]
    apply wpEff2_cons
    focus
      intro B L wz hL hD hC
      refine .inl ⟨by rfl, ?_⟩
      obtain ⟨c_0, c_1, c_2, c_3, c_4, c_5, c_6, c_7, c_8, c_9, c_10, c_11, c_12⟩ := hS wz hC.nw
      unfold effAt
      go_simp
      exact ⟨rfl, hC.keep _ (by rfl)⟩
    simp only [Act.put, List.setIfInBounds_toArray, List.set_cons_zero, List.set_cons_succ]
    apply wpEff2_cons
    focus
      intro B L wz hL hD hC
      refine .inl ⟨by rfl, ?_⟩
      obtain ⟨c_0, c_1, c_2, c_3, c_4, c_5, c_6, c_7, c_8, c_9, c_10, c_11, c_12⟩ := hS wz hC.nw
      unfold effAt
      go_simp
      exact ⟨rfl, hC.keep _ (by rfl)⟩
    simp only [Act.put, List.setIfInBounds_toArray, List.set_cons_zero, List.set_cons_succ]
    apply wpEff2_cons
    focus
      intro B L wz hL hD hC
      refine .inl ⟨by rfl, ?_⟩
      obtain ⟨c_0, c_1, c_2, c_3, c_4, c_5, c_6, c_7, c_8, c_9, c_10, c_11, c_12⟩ := hS wz hC.nw
      unfold effAt
      go_simp
      exact ⟨rfl, hC.keep _ (by rfl)⟩
    simp only [Act.put, List.setIfInBounds_toArray, List.set_cons_zero, List.set_cons_succ]
    refine wpEff2_free (fun b => .slice b.2 y7.length b.1) ?_ ?_
    focus
      intro B L wz hL hD hC
      have hnw := hC.nw
      refine .inl ⟨by rfl, ?_⟩
      unfold effAt2
      go_simp
      refine ((l7 wz)).mono ?_
      rintro e w9 ⟨v, rfl, ho⟩
      obtain ⟨b, rfl, q9, f1, f2, f3⟩ := outB hnw ho
      exact ⟨b, rfl, hC.put hlast q9 _ b (by intro f hf hk; simp only [List.mem_cons, List.not_mem_nil, or_false] at hf; rcases hf with rfl | rfl | rfl | rfl | rfl | rfl | rfl | rfl | rfl | rfl | rfl | rfl <;> first | exact ⟨f1, f2, f3⟩ | exact absurd hk (by simp [bytesF, blkF, rowsF]))⟩
    simp only [Act.put, List.setIfInBounds_toArray, List.set_cons_zero, List.set_cons_succ]
    apply wpEff2_cons
    focus
      intro B L wz hL hD hC
      refine .inl ⟨by rfl, ?_⟩
      obtain ⟨c_0, c_1, c_2, c_3, c_4, c_5, c_6, c_7, c_8, c_9, c_10, c_11, c_12⟩ := hS wz hC.nw
      unfold effAt
      go_simp
      exact ⟨rfl, hC.keep _ (by rfl)⟩
    simp only [Act.put, List.setIfInBounds_toArray, List.set_cons_zero, List.set_cons_succ]
    apply wpEff2_cons
    focus
      intro B L wz hL hD hC
      refine .inl ⟨by rfl, ?_⟩
      obtain ⟨c_0, c_1, c_2, c_3, c_4, c_5, c_6, c_7, c_8, c_9, c_10, c_11, c_12⟩ := hS wz hC.nw
      unfold effAt
      go_simp
      exact ⟨rfl, hC.keep _ (by rfl)⟩
    simp only [Act.put, List.setIfInBounds_toArray, List.set_cons_zero, List.set_cons_succ]
    refine wpEff2_free (fun b => .slice b.2 y8.length b.1) ?_ ?_
    focus
      intro B L wz hL hD hC
      have hnw := hC.nw
      refine .inl ⟨by rfl, ?_⟩
      unfold effAt2
      go_simp
      refine ((l8 wz hnw)).mono ?_
      rintro e w9 ⟨v, rfl, ho⟩
      obtain ⟨b, rfl, q9, f1, f2, f3⟩ := outB hnw ho
      exact ⟨b, rfl, hC.put hlast q9 _ b (by intro f hf hk; simp only [List.mem_cons, List.not_mem_nil, or_false] at hf; rcases hf with rfl | rfl | rfl | rfl | rfl | rfl | rfl | rfl | rfl | rfl | rfl | rfl <;> first | exact ⟨f1, f2, f3⟩ | exact absurd hk (by simp [bytesF, blkF, rowsF]))⟩
    simp only [Act.put, List.setIfInBounds_toArray, List.set_cons_zero, List.set_cons_succ]
    refine wpEff2_free (fun b => .slice (some ⟨b.1, 0, none⟩) 8 8) ?_ ?_
    focus
      intro B L wz hL hD hC
      have g1 := hC.get 1 _ rfl (hD 11 (by kernel_rfl))
      have g2 := hC.get 2 _ rfl (hD 14 (by kernel_rfl))
      have g3 := hC.get 3 _ rfl (hD 17 (by kernel_rfl))
      have g4 := hC.get 4 _ rfl (hD 20 (by kernel_rfl))
      have g6 := hC.get 6 _ rfl (hD 28 (by kernel_rfl))
      have g7 := hC.get 7 _ rfl (hD 32 (by kernel_rfl))
      have g8 := hC.get 8 _ rfl (hD 36 (by kernel_rfl))
      have g9 := hC.get 9 _ rfl (hD 39 (by kernel_rfl))
      have hnw := hC.nw
      have ha : Nw wz (wz.alloc (.cells #[.slice (B 11).2 y1.length (B 11).1, .slice (B 14).2 y2.length (B 14).1, .slice (B 17).2 y3.length (B 17).1, .slice (B 20).2 y4.length (B 20).1, .slice (B 28).2 y5.length (B 28).1, .slice (B 32).2 y6.length (B 32).1, .slice (B 36).2 y7.length (B 36).1, .slice (B 39).2 y8.length (B 39).1] 22)) := (Fr.refl (fun _ => False) wz).alloc _
      have hrows := RowsV.cons ⟨_, _, rfl, g1.2.1, g1.2.2, (g1.1.fr ha (fun _ _ h => h)).mono (fun _ _ _ => trivial)⟩ (RowsV.cons ⟨_, _, rfl, g2.2.1, g2.2.2, (g2.1.fr ha (fun _ _ h => h)).mono (fun _ _ _ => trivial)⟩ (RowsV.cons ⟨_, _, rfl, g3.2.1, g3.2.2, (g3.1.fr ha (fun _ _ h => h)).mono (fun _ _ _ => trivial)⟩ (RowsV.cons ⟨_, _, rfl, g4.2.1, g4.2.2, (g4.1.fr ha (fun _ _ h => h)).mono (fun _ _ _ => trivial)⟩ (RowsV.cons ⟨_, _, rfl, g6.2.1, g6.2.2, (g6.1.fr ha (fun _ _ h => h)).mono (fun _ _ _ => trivial)⟩ (RowsV.cons ⟨_, _, rfl, g7.2.1, g7.2.2, (g7.1.fr ha (fun _ _ h => h)).mono (fun _ _ _ => trivial)⟩ (RowsV.cons ⟨_, _, rfl, g8.2.1, g8.2.2, (g8.1.fr ha (fun _ _ h => h)).mono (fun _ _ _ => trivial)⟩ (RowsV.cons ⟨_, _, rfl, g9.2.1, g9.2.2, (g9.1.fr ha (fun _ _ h => h)).mono (fun _ _ _ => trivial)⟩ (RowsV.nil _ _))))))))
      refine .inl ⟨by rfl, ?_⟩
      unfold effAt2
      go_simp
      exact ⟨(wz.heap.size, none), rfl, hC.put hlast ha _ _ (by intro f hf hk; simp only [List.mem_cons, List.not_mem_nil, or_false] at hf; rcases hf with rfl | rfl | rfl | rfl | rfl | rfl | rfl | rfl | rfl | rfl | rfl | rfl <;> first | exact ⟨_, Blk.new wz _ _, hrows⟩ | exact absurd hk (by simp [bytesF, blkF, rowsF]))⟩
    simp only [Act.put, List.setIfInBounds_toArray, List.set_cons_zero, List.set_cons_succ]
    refine wpEff2_free (fun b => .slice b.2 y.length b.1) ?_ ?_
    focus
      intro B L wz hL hD hC
      have g10 := hC.get 10 _ rfl (hD 40 (by kernel_rfl))
      obtain ⟨cs7, hb, hrr⟩ := g10
      have hnw := hC.nw
      refine .inl ⟨by rfl, ?_⟩
      unfold effAt2
      go_simp
      refine ((lall wz _ cs7 hb hrr)).mono ?_
      rintro e w9 ⟨v, rfl, ho⟩
      obtain ⟨b, rfl, q9, f1, f2, f3⟩ := outB hnw ho
      exact ⟨b, rfl, hC.put hlast q9 _ b (by intro f hf hk; simp only [List.mem_cons, List.not_mem_nil, or_false] at hf; rcases hf with rfl | rfl | rfl | rfl | rfl | rfl | rfl | rfl | rfl | rfl | rfl | rfl <;> first | exact ⟨f1, f2, f3⟩ | exact absurd hk (by simp [bytesF, blkF, rowsF]))⟩
    simp only [Act.put, List.setIfInBounds_toArray, List.set_cons_zero, List.set_cons_succ]
    refine wpEff2_dep (fun B => .slice (B 41).2 y.length (B 41).1) (fun B B2 h => by have e := h 41 (by kernel_rfl); simp only [e]) ?_ ?_
    focus
      intro B L wz hL hD hC
      refine .inl ⟨by rfl, ?_⟩
      unfold effAt
      go_simp
      exact ⟨rfl, hC.keep _ (by rfl)⟩
    simp only [Act.put, List.setIfInBounds_toArray, List.set_cons_zero, List.set_cons_succ]
    apply wpEff2_cons
    focus
      intro B L wz hL hD hC
      refine .inl ⟨by rfl, ?_⟩
      obtain ⟨c_0, c_1, c_2, c_3, c_4, c_5, c_6, c_7, c_8, c_9, c_10, c_11, c_12⟩ := hS wz hC.nw
      unfold effAt
      go_simp
      exact ⟨rfl, hC.keep _ (by rfl)⟩
    simp only [Act.put, List.setIfInBounds_toArray, List.set_cons_zero, List.set_cons_succ]
    refine wpEff2_nil fun B wz hC5 => ?_
    obtain ⟨f1, f2, f3⟩ := hC5.get 11 _ rfl rfl
    have hnw := hC5.nw
    have HH := Lib.hid (And.intro f1 (And.intro f2 f3))
    clear f1 f2 f3 hC5 hlast
    go_wp2_with fail
    go_ret2
    have e : ordB x = y := by
      rw [← HY.out.1, ← HY.out.2]
      simp
    obtain ⟨f1, f2, f3⟩ := HH.out
    rw [e]
    exact ⟨(B 41), rfl, (Q0.tr Qd).tr hnw, f1.mono (fun j hj _ => Nat.le_trans (Q0.tr Qd).size hj), f2, f3⟩
set_option maxRecDepth 100000 in
set_option maxHeartbeats 8000000 in
theorem xputAns_any (w : World) (F : Nat → Prop) (x : AnsF) (p : Pl) (hi : AnsIn w F x p) (hz : AnsSz x) :
    Calls Tryz.prog 33 #[.agg (afA x p)] w fun e w' => RPutTo w (if ansOk x = true then some (ansB x) else none) e w' := by
  obtain ⟨W00, hW00⟩ : ∃ W00, W00 = w.alloc (.cells (afA x p) 60) := ⟨_, rfl⟩
  have q00 : Nw w W00 := by rw [hW00]; exact (Fr.refl (fun _ => False) w).alloc _
  have x00 : Blk W00 w.heap.size 60 (afA x p) := by rw [hW00]; exact Blk.new w _ _
  have hcon := rsound_any W00 F x p (hi.fr q00 (fun _ _ h => h)) hz
  have HW := Lib.hid hW00
  clear hW00
  cases hok : ansOk x with
  | false =>
    rw [hok] at hcon
    rw [if_neg (by simp)]
    clear hok
    go_enter Tryz.func33, Tryz.ntmps33
    go_upto_region 1 with (fail)
    rw [← HW.out]
    go_wp2_with (first | (refine wpList_load_row rfl 60 _ rfl w.heap.size rfl 60 _ (0, 0) _ x00 Tryz.underlying60 rfl rans_size ?_) | (go_at_call 34; refine hcon.mono ?_; rintro e w1 ⟨rfl, q2⟩))
    go_ret2
    exact ⟨rfl, q00.tr q2⟩
  | true =>
    have hsm := ansOk_sm hok
    rw [hok] at hcon
    rw [if_pos rfl]
    clear hok
    go_enter Tryz.func33, Tryz.ntmps33
    go_upto_region 1 with (fail)
    rw [← HW.out]
    go_upto_region 3 with (first | (refine wpList_load_row rfl 60 _ rfl w.heap.size rfl 60 _ (0, 0) _ x00 Tryz.underlying60 rfl rans_size ?_) | (go_at_call 34; refine hcon.mono ?_; rintro e W0 ⟨rfl, q2⟩))
    have Q0 : Nw w W0 := q00.tr q2
    have x0 := x00.fr q2 (fun h => h)
    have Qd : Nw W0 W0.drew := (Fr.refl (fun _ => False) W0).drew
    have hS : ∀ w1, Nw W0.drew w1 → w1.cell? ⟨w.heap.size, 0, none⟩ = some (I64 x.err) ∧ w1.cell? ⟨w.heap.size, 1, none⟩ = some (I64 x.nm.1) ∧ w1.cell? ⟨w.heap.size, 2, none⟩ = some (I64 x.nm.2) ∧ w1.cell? ⟨w.heap.size, 3, none⟩ = some (.bool x.is) ∧ w1.cell? ⟨w.heap.size, 4, none⟩ = some (.bool x.commit) ∧ w1.cell? ⟨w.heap.size, 5, none⟩ = some (.slice p.r x.reads.length p.cr) ∧ w1.cell? ⟨w.heap.size, 6, none⟩ = some (I64 x.scheme) ∧ w1.cell? ⟨w.heap.size, 7, none⟩ = some (I64 x.stage) ∧ w1.cell? ⟨w.heap.size, 8, none⟩ = some (.slice p.b x.bytes.length p.cb) := fun w1 f => by
      have a := (x0.fr Qd (fun h => h)).fr f (fun h => h)
      exact ⟨by simpa using a.cell 0, by simpa using a.cell 1, by simpa using a.cell 2, by simpa using a.cell 3, by simpa using a.cell 4, by simpa using a.cell 5, by simpa using a.cell 6, by simpa using a.cell 7, by simpa using a.cell 8⟩
    have hin : ∀ w1, Nw W0.drew w1 → AnsIn w1 F x p := fun w1 f => hi.fr ((Q0.tr Qd).tr f) (fun _ _ h => h)
    have e1 : encAll [x.err, x.nm.1, x.nm.2] ++ (flagB x.is ++ (flagB x.commit ++ ((enc x.reads.length ++ rdgsB x.reads) ++ (encAll [x.scheme, x.stage] ++ (rowB x.bytes))))) = ansB x := by simp [ansB]
    have l1 := fun wz b (hb : Blk wz b 3 #[I64 x.err, I64 x.nm.1, I64 x.nm.2]) => xnumbers_any wz (fun _ => True) (some ⟨b, 0, none⟩) 3 3 [x.err, x.nm.1, x.nm.2] (blk_sl hb) rfl (by decide) (by
      intro z hz
      simp only [List.mem_cons, List.not_mem_nil, or_false] at hz
      have := hsm.err
      have := hsm.nm
      rcases hz with rfl | rfl | rfl <;> exact int_right _ (by omega) (by omega))
    have l2 := fun wz => xflag_any wz x.is
    have l3 := fun wz => xflag_any wz x.commit
    have l4 := fun wz (f : Nw W0.drew wz) => xtold_any wz F p.r p.cr x.reads (hin wz f).reads (rdgOks_sm hsm.reads.2) hsm.reads.1
    have l5 := fun wz b (hb : Blk wz b 3 #[I64 x.scheme, I64 x.stage]) => xnumbers_any wz (fun _ => True) (some ⟨b, 0, none⟩) 2 2 [x.scheme, x.stage] (blk_sl hb) rfl (by decide) (by
      intro z hz
      simp only [List.mem_cons, List.not_mem_nil, or_false] at hz
      have := hsm.scheme
      have := hsm.stage
      rcases hz with rfl | rfl <;> exact int_right _ (by omega) (by omega))
    have l8 := fun wz (f : Nw W0.drew wz) => xrow_any wz F p.b p.cb x.bytes (hin wz f).bytes (by have := hsm.bytes; omega)
    have zy1 := encAll_le [x.err, x.nm.1, x.nm.2]
    have zy2 : (flagB x.is).length = 1 := rfl
    have zy3 : (flagB x.commit).length = 1 := rfl
    have zy4 : (enc x.reads.length ++ rdgsB x.reads).length ≤ 9 + 3000 * x.reads.length := by
      have := enc_len x.reads.length
      have := rdgs_most x.reads (rdgOks_sm hsm.reads.2)
      rw [List.length_append]
      omega
    have zy5 := encAll_le [x.scheme, x.stage]
    have zy8 := rowB_most x.bytes
    obtain ⟨y1, hy1⟩ : ∃ y, encAll [x.err, x.nm.1, x.nm.2] = y := ⟨_, rfl⟩
    rw [hy1] at e1
    rw [hy1] at zy1
    simp only [hy1] at l1
    obtain ⟨y2, hy2⟩ : ∃ y, flagB x.is = y := ⟨_, rfl⟩
    rw [hy2] at e1
    rw [hy2] at zy2
    simp only [hy2] at l2
    obtain ⟨y3, hy3⟩ : ∃ y, flagB x.commit = y := ⟨_, rfl⟩
    rw [hy3] at e1
    rw [hy3] at zy3
    simp only [hy3] at l3
    obtain ⟨y4, hy4⟩ : ∃ y, (enc x.reads.length ++ rdgsB x.reads) = y := ⟨_, rfl⟩
    rw [hy4] at e1
    rw [hy4] at zy4
    simp only [hy4] at l4
    obtain ⟨y5, hy5⟩ : ∃ y, encAll [x.scheme, x.stage] = y := ⟨_, rfl⟩
    rw [hy5] at e1
    rw [hy5] at zy5
    simp only [hy5] at l5
    obtain ⟨y8, hy8⟩ : ∃ y, rowB x.bytes = y := ⟨_, rfl⟩
    rw [hy8] at e1
    rw [hy8] at zy8
    simp only [hy8] at l8
    have hrl : rowsLen [y1, y2, y3, y4, y5, y8] ≤ 10000000 := by
      try simp only [List.length_cons, List.length_nil] at zy1 zy2 zy3 zy4 zy5 zy8
      simp only [rowsLen, List.map_cons, List.map_nil, List.sum_cons, List.sum_nil]
      have := hsm.bytes
      have := hsm.reads.1
      omega
    have lall := fun wz b cs (hb : Blk wz b 22 cs) (hrr : RowsV wz (fun _ => True) cs.toList [y1, y2, y3, y4, y5, y8]) => xall_any wz (fun _ => True) (some ⟨b, 0, none⟩) 6 cs.toList [y1, y2, y3, y4, y5, y8] (blk_sl hb) hrr (by simp) hrl
    obtain ⟨y, hy⟩ : ∃ y, ([y1, y2, y3, y4, y5, y8] : List (List UInt8)).flatten = y := ⟨_, rfl⟩
    simp only [hy] at lall
    have HY := Lib.hid (And.intro hy e1)
    clear hy e1 hrl x0 x00 hcon hi zy1 hy1 zy2 hy2 zy3 hy3 zy4 hy4 zy5 hy5 zy8 hy8
    have hlast : Lasts ([blkF W0.drew 8 3 #[I64 x.err, I64 x.nm.1, I64 x.nm.2], bytesF W0.drew 9 y1, bytesF W0.drew 12 y2, bytesF W0.drew 15 y3, bytesF W0.drew 18 y4, blkF W0.drew 23 3 #[I64 x.scheme, I64 x.stage], bytesF W0.drew 24 y5, bytesF W0.drew 27 y8, rowsF W0.drew 28 22 [y1, y2, y3, y4, y5, y8] (fun _ => True), bytesF W0.drew 29 y]) := (by intro f hf; simp only [List.mem_cons, List.not_mem_nil, or_false] at hf; rcases hf with rfl | rfl | rfl | rfl | rfl | rfl | rfl | rfl | rfl | rfl <;> first | exact bytesF_lasts _ _ _ | exact blkF_lasts _ _ _ _ | exact rowsF_lasts _ _ _ _ _)
    refine wp_region_eff2 (RfC W0.drew ([blkF W0.drew 8 3 #[I64 x.err, I64 x.nm.1, I64 x.nm.2], bytesF W0.drew 9 y1, bytesF W0.drew 12 y2, bytesF W0.drew 15 y3, bytesF W0.drew 18 y4, blkF W0.drew 23 3 #[I64 x.scheme, I64 x.stage], bytesF W0.drew 24 y5, bytesF W0.drew 27 y8, rowsF W0.drew 28 22 [y1, y2, y3, y4, y5, y8] (fun _ => True), bytesF W0.drew 29 y])) (fun _ => (0, none)) (by kernel_rfl) (by kernel_rfl) ⟨Fr.refl _ _, fun _ _ h => by cases h⟩ ?_
    apply wpEff2_cons
    focus
      intro B L wz hL hD hC
      refine .inl ⟨by rfl, ?_⟩
      obtain ⟨c_0, c_1, c_2, c_3, c_4, c_5, c_6, c_7, c_8⟩ := hS wz hC.nw
      unfold effAt
      go_simp
      exact ⟨rfl, hC.keep _ (by rfl)⟩
    simp only [Act.put, List.setIfInBounds_toArray, List.set_cons_zero, List.set_cons_succ]
    apply wpEff2_cons
    focus
      intro B L wz hL hD hC
      refine .inl ⟨by rfl, ?_⟩
      obtain ⟨c_0, c_1, c_2, c_3, c_4, c_5, c_6, c_7, c_8⟩ := hS wz hC.nw
      unfold effAt
      go_simp
      exact ⟨rfl, hC.keep _ (by rfl)⟩
    simp only [Act.put, List.setIfInBounds_toArray, List.set_cons_zero, List.set_cons_succ]
    apply wpEff2_cons
    focus
      intro B L wz hL hD hC
      refine .inl ⟨by rfl, ?_⟩
      obtain ⟨c_0, c_1, c_2, c_3, c_4, c_5, c_6, c_7, c_8⟩ := hS wz hC.nw
      unfold effAt
      go_simp
      exact ⟨rfl, hC.keep _ (by rfl)⟩
    simp only [Act.put, List.setIfInBounds_toArray, List.set_cons_zero, List.set_cons_succ]
    apply wpEff2_cons
    focus
      intro B L wz hL hD hC
      refine .inl ⟨by rfl, ?_⟩
      obtain ⟨c_0, c_1, c_2, c_3, c_4, c_5, c_6, c_7, c_8⟩ := hS wz hC.nw
      unfold effAt
      go_simp
      exact ⟨rfl, hC.keep _ (by rfl)⟩
    simp only [Act.put, List.setIfInBounds_toArray, List.set_cons_zero, List.set_cons_succ]
    apply wpEff2_cons
    focus
      intro B L wz hL hD hC
      refine .inl ⟨by rfl, ?_⟩
      obtain ⟨c_0, c_1, c_2, c_3, c_4, c_5, c_6, c_7, c_8⟩ := hS wz hC.nw
      unfold effAt
      go_simp
      exact ⟨rfl, hC.keep _ (by rfl)⟩
    simp only [Act.put, List.setIfInBounds_toArray, List.set_cons_zero, List.set_cons_succ]
    apply wpEff2_cons
    focus
      intro B L wz hL hD hC
      refine .inl ⟨by rfl, ?_⟩
      obtain ⟨c_0, c_1, c_2, c_3, c_4, c_5, c_6, c_7, c_8⟩ := hS wz hC.nw
      unfold effAt
      go_simp
      exact ⟨rfl, hC.keep _ (by rfl)⟩
    simp only [Act.put, List.setIfInBounds_toArray, List.set_cons_zero, List.set_cons_succ]
    apply wpEff2_cons
    focus
      intro B L wz hL hD hC
      refine .inl ⟨by rfl, ?_⟩
      obtain ⟨c_0, c_1, c_2, c_3, c_4, c_5, c_6, c_7, c_8⟩ := hS wz hC.nw
      unfold effAt
      go_simp
      exact ⟨rfl, hC.keep _ (by rfl)⟩
    simp only [Act.put, List.setIfInBounds_toArray, List.set_cons_zero, List.set_cons_succ]
    apply wpEff2_cons
    focus
      intro B L wz hL hD hC
      refine .inl ⟨by rfl, ?_⟩
      obtain ⟨c_0, c_1, c_2, c_3, c_4, c_5, c_6, c_7, c_8⟩ := hS wz hC.nw
      unfold effAt
      go_simp
      exact ⟨rfl, hC.keep _ (by rfl)⟩
    simp only [Act.put, List.setIfInBounds_toArray, List.set_cons_zero, List.set_cons_succ]
    refine wpEff2_free (fun b => .slice (some ⟨b.1, 0, none⟩) 3 3) ?_ ?_
    focus
      intro B L wz hL hD hC
      refine .inl ⟨by rfl, ?_⟩
      unfold effAt2
      go_simp
      exact ⟨(wz.heap.size, none), rfl, hC.put hlast ((Fr.refl (fun _ => False) wz).alloc _) _ _ (by intro f hf hk; simp only [List.mem_cons, List.not_mem_nil, or_false] at hf; rcases hf with rfl | rfl | rfl | rfl | rfl | rfl | rfl | rfl | rfl | rfl <;> first | exact ⟨Blk.new wz _ _, hC.nw.size⟩ | exact absurd hk (by simp [bytesF, blkF, rowsF]))⟩
    simp only [Act.put, List.setIfInBounds_toArray, List.set_cons_zero, List.set_cons_succ]
    refine wpEff2_free (fun b => .slice b.2 y1.length b.1) ?_ ?_
    focus
      intro B L wz hL hD hC
      have g0 := hC.get 0 _ rfl (hD 8 (by kernel_rfl))
      have hnw := hC.nw
      refine .inl ⟨by rfl, ?_⟩
      unfold effAt2
      go_simp
      refine ((l1 wz _ g0.1)).mono ?_
      rintro e w9 ⟨v, rfl, ho⟩
      obtain ⟨b, rfl, q9, f1, f2, f3⟩ := outB hnw ho
      exact ⟨b, rfl, hC.put hlast q9 _ b (by intro f hf hk; simp only [List.mem_cons, List.not_mem_nil, or_false] at hf; rcases hf with rfl | rfl | rfl | rfl | rfl | rfl | rfl | rfl | rfl | rfl <;> first | exact ⟨f1, f2, f3⟩ | exact absurd hk (by simp [bytesF, blkF, rowsF]))⟩
    simp only [Act.put, List.setIfInBounds_toArray, List.set_cons_zero, List.set_cons_succ]
    apply wpEff2_cons
    focus
      intro B L wz hL hD hC
      refine .inl ⟨by rfl, ?_⟩
      obtain ⟨c_0, c_1, c_2, c_3, c_4, c_5, c_6, c_7, c_8⟩ := hS wz hC.nw
      unfold effAt
      go_simp
      exact ⟨rfl, hC.keep _ (by rfl)⟩
    simp only [Act.put, List.setIfInBounds_toArray, List.set_cons_zero, List.set_cons_succ]
    apply wpEff2_cons
    focus
      intro B L wz hL hD hC
      refine .inl ⟨by rfl, ?_⟩
      obtain ⟨c_0, c_1, c_2, c_3, c_4, c_5, c_6, c_7, c_8⟩ := hS wz hC.nw
      unfold effAt
      go_simp
      exact ⟨rfl, hC.keep _ (by rfl)⟩
    simp only [Act.put, List.setIfInBounds_toArray, List.set_cons_zero, List.set_cons_succ]
    refine wpEff2_free (fun b => .slice b.2 y2.length b.1) ?_ ?_
    focus
      intro B L wz hL hD hC
      have hnw := hC.nw
      refine .inl ⟨by rfl, ?_⟩
      unfold effAt2
      go_simp
      refine ((l2 wz)).mono ?_
      rintro e w9 ⟨v, rfl, ho⟩
      obtain ⟨b, rfl, q9, f1, f2, f3⟩ := outB hnw ho
      exact ⟨b, rfl, hC.put hlast q9 _ b (by intro f hf hk; simp only [List.mem_cons, List.not_mem_nil, or_false] at hf; rcases hf with rfl | rfl | rfl | rfl | rfl | rfl | rfl | rfl | rfl | rfl <;> first | exact ⟨f1, f2, f3⟩ | exact absurd hk (by simp [bytesF, blkF, rowsF]))⟩
    simp only [Act.put, List.setIfInBounds_toArray, List.set_cons_zero, List.set_cons_succ]
    apply wpEff2_cons
    focus
      intro B L wz hL hD hC
      refine .inl ⟨by rfl, ?_⟩
      obtain ⟨c_0, c_1, c_2, c_3, c_4, c_5, c_6, c_7, c_8⟩ := hS wz hC.nw
      unfold effAt
      go_simp
      exact ⟨rfl, hC.keep _ (by rfl)⟩
    simp only [Act.put, List.setIfInBounds_toArray, List.set_cons_zero, List.set_cons_succ]
    apply wpEff2_cons
    focus
      intro B L wz hL hD hC
      refine .inl ⟨by rfl, ?_⟩
      obtain ⟨c_0, c_1, c_2, c_3, c_4, c_5, c_6, c_7, c_8⟩ := hS wz hC.nw
      unfold effAt
      go_simp
      exact ⟨rfl, hC.keep _ (by rfl)⟩
    simp only [Act.put, List.setIfInBounds_toArray, List.set_cons_zero, List.set_cons_succ]
    refine wpEff2_free (fun b => .slice b.2 y3.length b.1) ?_ ?_
    focus
      intro B L wz hL hD hC
      have hnw := hC.nw
      refine .inl ⟨by rfl, ?_⟩
      unfold effAt2
      go_simp
      refine ((l3 wz)).mono ?_
      rintro e w9 ⟨v, rfl, ho⟩
      obtain ⟨b, rfl, q9, f1, f2, f3⟩ := outB hnw ho
      exact ⟨b, rfl, hC.put hlast q9 _ b (by intro f hf hk; simp only [List.mem_cons, List.not_mem_nil, or_false] at hf; rcases hf with rfl | rfl | rfl | rfl | rfl | rfl | rfl | rfl | rfl | rfl <;> first | exact ⟨f1, f2, f3⟩ | exact absurd hk (by simp [bytesF, blkF, rowsF]))⟩
    simp only [Act.put, List.setIfInBounds_toArray, List.set_cons_zero, List.set_cons_succ]
    apply wpEff2_cons
    focus
      intro B L wz hL hD hC
      refine .inl ⟨by rfl, ?_⟩
      obtain ⟨c_0, c_1, c_2, c_3, c_4, c_5, c_6, c_7, c_8⟩ := hS wz hC.nw
      unfold effAt
      go_simp
      exact ⟨rfl, hC.keep _ (by rfl)⟩
    simp only [Act.put, List.setIfInBounds_toArray, List.set_cons_zero, List.set_cons_succ]
    apply wpEff2_cons
    focus
      intro B L wz hL hD hC
      refine .inl ⟨by rfl, ?_⟩
      obtain ⟨c_0, c_1, c_2, c_3, c_4, c_5, c_6, c_7, c_8⟩ := hS wz hC.nw
      unfold effAt
      go_simp
      exact ⟨rfl, hC.keep _ (by rfl)⟩
    simp only [Act.put, List.setIfInBounds_toArray, List.set_cons_zero, List.set_cons_succ]
    refine wpEff2_free (fun b => .slice b.2 y4.length b.1) ?_ ?_
    focus
      intro B L wz hL hD hC
      have hnw := hC.nw
      refine .inl ⟨by rfl, ?_⟩
      unfold effAt2
      go_simp
      refine ((l4 wz hnw)).mono ?_
      rintro e w9 ⟨v, rfl, ho⟩
      obtain ⟨b, rfl, q9, f1, f2, f3⟩ := tellB_out hnw ho
      exact ⟨b, rfl, hC.put hlast q9 _ b (by intro f hf hk; simp only [List.mem_cons, List.not_mem_nil, or_false] at hf; rcases hf with rfl | rfl | rfl | rfl | rfl | rfl | rfl | rfl | rfl | rfl <;> first | exact ⟨f1, f2, f3⟩ | exact absurd hk (by simp [bytesF, blkF, rowsF]))⟩
    simp only [Act.put, List.setIfInBounds_toArray, List.set_cons_zero, List.set_cons_succ]
    apply wpEff2_cons
    focus
      intro B L wz hL hD hC
      refine .inl ⟨by rfl, ?_⟩
      obtain ⟨c_0, c_1, c_2, c_3, c_4, c_5, c_6, c_7, c_8⟩ := hS wz hC.nw
      unfold effAt
      go_simp
      exact ⟨rfl, hC.keep _ (by rfl)⟩
    simp only [Act.put, List.setIfInBounds_toArray, List.set_cons_zero, List.set_cons_succ]
    apply wpEff2_cons
    focus
      intro B L wz hL hD hC
      refine .inl ⟨by rfl, ?_⟩
      obtain ⟨c_0, c_1, c_2, c_3, c_4, c_5, c_6, c_7, c_8⟩ := hS wz hC.nw
      unfold effAt
      go_simp
      exact ⟨rfl, hC.keep _ (by rfl)⟩
    simp only [Act.put, List.setIfInBounds_toArray, List.set_cons_zero, List.set_cons_succ]
    apply wpEff2_cons
    focus
      intro B L wz hL hD hC
      refine .inl ⟨by rfl, ?_⟩
      obtain ⟨c_0, c_1, c_2, c_3, c_4, c_5, c_6, c_7, c_8⟩ := hS wz hC.nw
      unfold effAt
      go_simp
      exact ⟨rfl, hC.keep _ (by rfl)⟩
    simp only [Act.put, List.setIfInBounds_toArray, List.set_cons_zero, List.set_cons_succ]
    apply wpEff2_cons
    focus
      intro B L wz hL hD hC
      refine .inl ⟨by rfl, ?_⟩
      obtain ⟨c_0, c_1, c_2, c_3, c_4, c_5, c_6, c_7, c_8⟩ := hS wz hC.nw
      unfold effAt
      go_simp
      exact ⟨rfl, hC.keep _ (by rfl)⟩
    simp only [Act.put, List.setIfInBounds_toArray, List.set_cons_zero, List.set_cons_succ]
    refine wpEff2_free (fun b => .slice (some ⟨b.1, 0, none⟩) 2 2) ?_ ?_
    focus
      intro B L wz hL hD hC
      refine .inl ⟨by rfl, ?_⟩
      unfold effAt2
      go_simp
      exact ⟨(wz.heap.size, none), rfl, hC.put hlast ((Fr.refl (fun _ => False) wz).alloc _) _ _ (by intro f hf hk; simp only [List.mem_cons, List.not_mem_nil, or_false] at hf; rcases hf with rfl | rfl | rfl | rfl | rfl | rfl | rfl | rfl | rfl | rfl <;> first | exact ⟨Blk.new wz _ _, hC.nw.size⟩ | exact absurd hk (by simp [bytesF, blkF, rowsF]))⟩
    simp only [Act.put, List.setIfInBounds_toArray, List.set_cons_zero, List.set_cons_succ]
    refine wpEff2_free (fun b => .slice b.2 y5.length b.1) ?_ ?_
    focus
      intro B L wz hL hD hC
      have g5 := hC.get 5 _ rfl (hD 23 (by kernel_rfl))
      have hnw := hC.nw
      refine .inl ⟨by rfl, ?_⟩
      unfold effAt2
      go_simp
      refine ((l5 wz _ g5.1)).mono ?_
      rintro e w9 ⟨v, rfl, ho⟩
      obtain ⟨b, rfl, q9, f1, f2, f3⟩ := outB hnw ho
      exact ⟨b, rfl, hC.put hlast q9 _ b (by intro f hf hk; simp only [List.mem_cons, List.not_mem_nil, or_false] at hf; rcases hf with rfl | rfl | rfl | rfl | rfl | rfl | rfl | rfl | rfl | rfl <;> first | exact ⟨f1, f2, f3⟩ | exact absurd hk (by simp [bytesF, blkF, rowsF]))⟩
    simp only [Act.put, List.setIfInBounds_toArray, List.set_cons_zero, List.set_cons_succ]
    apply wpEff2_cons
    focus
      intro B L wz hL hD hC
      refine .inl ⟨by rfl, ?_⟩
      obtain ⟨c_0, c_1, c_2, c_3, c_4, c_5, c_6, c_7, c_8⟩ := hS wz hC.nw
      unfold effAt
      go_simp
      exact ⟨rfl, hC.keep _ (by rfl)⟩
    simp only [Act.put, List.setIfInBounds_toArray, List.set_cons_zero, List.set_cons_succ]
    apply wpEff2_cons
    focus
      intro B L wz hL hD hC
      refine .inl ⟨by rfl, ?_⟩
      obtain ⟨c_0, c_1, c_2, c_3, c_4, c_5, c_6, c_7, c_8⟩ := hS wz hC.nw
      unfold effAt
      go_simp
      exact ⟨rfl, hC.keep _ (by rfl)⟩
    simp only [Act.put, List.setIfInBounds_toArray, List.set_cons_zero, List.set_cons_succ]
    refine wpEff2_free (fun b => .slice b.2 y8.length b.1) ?_ ?_
    focus
      intro B L wz hL hD hC
      have hnw := hC.nw
      refine .inl ⟨by rfl, ?_⟩
      unfold effAt2
      go_simp
      refine ((l8 wz hnw)).mono ?_
      rintro e w9 ⟨v, rfl, ho⟩
      obtain ⟨b, rfl, q9, f1, f2, f3⟩ := outB hnw ho
      exact ⟨b, rfl, hC.put hlast q9 _ b (by intro f hf hk; simp only [List.mem_cons, List.not_mem_nil, or_false] at hf; rcases hf with rfl | rfl | rfl | rfl | rfl | rfl | rfl | rfl | rfl | rfl <;> first | exact ⟨f1, f2, f3⟩ | exact absurd hk (by simp [bytesF, blkF, rowsF]))⟩
    simp only [Act.put, List.setIfInBounds_toArray, List.set_cons_zero, List.set_cons_succ]
    refine wpEff2_free (fun b => .slice (some ⟨b.1, 0, none⟩) 6 6) ?_ ?_
    focus
      intro B L wz hL hD hC
      have g1 := hC.get 1 _ rfl (hD 9 (by kernel_rfl))
      have g2 := hC.get 2 _ rfl (hD 12 (by kernel_rfl))
      have g3 := hC.get 3 _ rfl (hD 15 (by kernel_rfl))
      have g4 := hC.get 4 _ rfl (hD 18 (by kernel_rfl))
      have g6 := hC.get 6 _ rfl (hD 24 (by kernel_rfl))
      have g7 := hC.get 7 _ rfl (hD 27 (by kernel_rfl))
      have hnw := hC.nw
      have ha : Nw wz (wz.alloc (.cells #[.slice (B 9).2 y1.length (B 9).1, .slice (B 12).2 y2.length (B 12).1, .slice (B 15).2 y3.length (B 15).1, .slice (B 18).2 y4.length (B 18).1, .slice (B 24).2 y5.length (B 24).1, .slice (B 27).2 y8.length (B 27).1] 22)) := (Fr.refl (fun _ => False) wz).alloc _
      have hrows := RowsV.cons ⟨_, _, rfl, g1.2.1, g1.2.2, (g1.1.fr ha (fun _ _ h => h)).mono (fun _ _ _ => trivial)⟩ (RowsV.cons ⟨_, _, rfl, g2.2.1, g2.2.2, (g2.1.fr ha (fun _ _ h => h)).mono (fun _ _ _ => trivial)⟩ (RowsV.cons ⟨_, _, rfl, g3.2.1, g3.2.2, (g3.1.fr ha (fun _ _ h => h)).mono (fun _ _ _ => trivial)⟩ (RowsV.cons ⟨_, _, rfl, g4.2.1, g4.2.2, (g4.1.fr ha (fun _ _ h => h)).mono (fun _ _ _ => trivial)⟩ (RowsV.cons ⟨_, _, rfl, g6.2.1, g6.2.2, (g6.1.fr ha (fun _ _ h => h)).mono (fun _ _ _ => trivial)⟩ (RowsV.cons ⟨_, _, rfl, g7.2.1, g7.2.2, (g7.1.fr ha (fun _ _ h => h)).mono (fun _ _ _ => trivial)⟩ (RowsV.nil _ _))))))
      refine .inl ⟨by rfl, ?_⟩
      unfold effAt2
      go_simp
      exact ⟨(wz.heap.size, none), rfl, hC.put hlast ha _ _ (by intro f hf hk; simp only [List.mem_cons, List.not_mem_nil, or_false] at hf; rcases hf with rfl | rfl | rfl | rfl | rfl | rfl | rfl | rfl | rfl | rfl <;> first | exact ⟨_, Blk.new wz _ _, hrows⟩ | exact absurd hk (by simp [bytesF, blkF, rowsF]))⟩
    simp only [Act.put, List.setIfInBounds_toArray, List.set_cons_zero, List.set_cons_succ]
    refine wpEff2_free (fun b => .slice b.2 y.length b.1) ?_ ?_
    focus
      intro B L wz hL hD hC
      have g8 := hC.get 8 _ rfl (hD 28 (by kernel_rfl))
      obtain ⟨cs7, hb, hrr⟩ := g8
      have hnw := hC.nw
      refine .inl ⟨by rfl, ?_⟩
      unfold effAt2
      go_simp
      refine ((lall wz _ cs7 hb hrr)).mono ?_
      rintro e w9 ⟨v, rfl, ho⟩
      obtain ⟨b, rfl, q9, f1, f2, f3⟩ := outB hnw ho
      exact ⟨b, rfl, hC.put hlast q9 _ b (by intro f hf hk; simp only [List.mem_cons, List.not_mem_nil, or_false] at hf; rcases hf with rfl | rfl | rfl | rfl | rfl | rfl | rfl | rfl | rfl | rfl <;> first | exact ⟨f1, f2, f3⟩ | exact absurd hk (by simp [bytesF, blkF, rowsF]))⟩
    simp only [Act.put, List.setIfInBounds_toArray, List.set_cons_zero, List.set_cons_succ]
    refine wpEff2_dep (fun B => .slice (B 29).2 y.length (B 29).1) (fun B B2 h => by have e := h 29 (by kernel_rfl); simp only [e]) ?_ ?_
    focus
      intro B L wz hL hD hC
      refine .inl ⟨by rfl, ?_⟩
      unfold effAt
      go_simp
      exact ⟨rfl, hC.keep _ (by rfl)⟩
    simp only [Act.put, List.setIfInBounds_toArray, List.set_cons_zero, List.set_cons_succ]
    apply wpEff2_cons
    focus
      intro B L wz hL hD hC
      refine .inl ⟨by rfl, ?_⟩
      obtain ⟨c_0, c_1, c_2, c_3, c_4, c_5, c_6, c_7, c_8⟩ := hS wz hC.nw
      unfold effAt
      go_simp
      exact ⟨rfl, hC.keep _ (by rfl)⟩
    simp only [Act.put, List.setIfInBounds_toArray, List.set_cons_zero, List.set_cons_succ]
    refine wpEff2_nil fun B wz hC5 => ?_
    obtain ⟨f1, f2, f3⟩ := hC5.get 9 _ rfl rfl
    have hnw := hC5.nw
    have HH := Lib.hid (And.intro f1 (And.intro f2 f3))
    clear f1 f2 f3 hC5 hlast
    go_wp2_with fail
    go_ret2
    have e : ansB x = y := by
      rw [← HY.out.1, ← HY.out.2]
      simp
    obtain ⟨f1, f2, f3⟩ := HH.out
    rw [e]
    exact ⟨(B 29), rfl, (Q0.tr Qd).tr hnw, f1.mono (fun j hj _ => Nat.le_trans (Q0.tr Qd).size hj), f2, f3⟩
end Go.Proofs.YtkjnlhidnkbelaaGreatDoor
