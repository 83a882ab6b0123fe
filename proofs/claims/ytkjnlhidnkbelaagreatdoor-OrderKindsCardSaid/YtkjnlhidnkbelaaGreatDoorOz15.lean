/- Lemmas of the walks: Gg3. (Laid together by shake.py.) -/
import Derived.Test.YtkjnlhidnkbelaaGreatDoorOz07
import Derived.Test.YtkjnlhidnkbelaaGreatDoorOz11
import Derived.Test.YtkjnlhidnkbelaaGreatDoorOz13
import Derived.Test.YtkjnlhidnkbelaaGreatDoorOz14
set_option linter.unusedVariables false
set_option linter.unusedSimpArgs false
/- Orders read by the document: reads, acts. (Printed by genrj.py.) -/
namespace Go.Proofs.YtkjnlhidnkbelaaGreatDoor
open Go Go.RowKit
set_option linter.unusedVariables false
set_option linter.unusedSimpArgs false
def XrsRel (w : World) (F : Nat → Prop) (g : Nat) (n : Nat) (s : Rd) (out i : Value) (wr : World) : Prop :=
  ∃ (k : Nat) (A : Option Addr) (c : Nat), k ≤ n ∧ i = .int .i64 k ∧ out = .slice A k c ∧ IsRR wr F g (rdRdgs k s).2 ∧ Own wr 93 3 A k c (rdgsCells (rdRdgs k s).1) ∧ Fr (· = g) w wr ∧ (∀ j, inA A j → w.heap.size ≤ j)
set_option maxRecDepth 100000 in
set_option maxHeartbeats 4000000 in
theorem xgreads_any (w : World) (F : Nat → Prop) (g : Nat) (s : Rd) (h : IsRR w F g s) (hsz : rdLeft s ≤ 1000000000000) :
    Calls Tryz.prog 91 #[.pointer (some ⟨g, 0, none⟩)] w fun e w' => ∃ A c, e = .returned (.slice A (rdRdgsN s).1.length c) ∧ Own w' 93 3 A (rdRdgsN s).1.length c (rdgsCells (rdRdgsN s).1) ∧ RRTo w F g (rdRdgsN s).2 w' ∧ ∀ j, inA A j → w.heap.size ≤ j := by
  have hg := h.lt
  have hF := h.out.2
  have hN : rdRdgsN s = rdRdgs (rdNum 6 s).1.toNat (rdNum 6 s).2 := rfl
  have l1 := Nat.le_trans (rdNum_left 6 s) hsz
  have m1 := rdNum_most 6 s (by omega)
  have n1 := fun w1 h1 => rrnumber_any w1 F g s h1 6 hsz
  rw [hN]
  clear hN
  generalize rdNum 6 s = y at l1 m1 n1 ⊢
  obtain ⟨n, s1⟩ := y
  simp only at l1 m1 n1 ⊢
  obtain ⟨n, rfl⟩ : ∃ k : Nat, n = (k : Int) := ⟨n.toNat, by omega⟩
  have hn6 : n ≤ 6 := by omega
  simp only [Int.toNat_natCast]
  have N1 := Lib.hid n1
  clear n1
  go_enter Tryz.func91, Tryz.ntmps91
  go_wp2_with (go_at_call 88; refine (N1.out _ h).mono ?_; rintro e w1 ⟨rfl, h1⟩)
  go_loopw [4, 5] (fun o i wx => XrsRel w F g n s1 o i wx) (fun _ i _ => n - (intOf i).toNat)
  case atStart => exact ⟨0, none, 0, Nat.zero_le _, rfl, rfl, h1.1, Own.nil _ _ _, h1.2, fun j hj => (inA_none j hj).elim⟩
  case round =>
    clear h1
    obtain ⟨k, A, c, hk, rfl, rfl, hr, ho, hf, hA⟩ := hrel
    by_cases hlt : k < n
    · have hlk := rdRdgs_len k s1
      have hsk := Nat.le_trans (rdRdgs_left k s1) l1
      have hsucc : rdRdgs (k + 1) s1 = ((rdRdgs k s1).1 ++ [(rdRdg (rdRdgs k s1).2).1], (rdRdg (rdRdgs k s1).2).2) := rfl
      obtain ⟨⟨lk, sk⟩, hkk⟩ : ∃ q, rdRdgs k s1 = q := ⟨_, rfl⟩
      rw [hkk] at hr ho hlk hsk hsucc
      simp only at hr ho hlk hsk hsucc
      have hx : rdRdg sk = (((rdRow 20 sk).1, (rdFlag (rdRow 20 sk).2).1, (rdRow 20 (rdFlag (rdRow 20 sk).2).2).1), (rdRow 20 (rdFlag (rdRow 20 sk).2).2).2) := rfl
      have hl1 : rdLeft (rdFlag (rdRow 20 sk).2).2 ≤ 1000000000000 := Nat.le_trans (rdFlag_left _) (Nat.le_trans (rdRow_left 20 sk) hsk)
      rw [hx] at hsucc
      have t1 := fun w1 h1 => rrrow_any w1 F g sk h1 20 hsk
      have t2 := fun w1 h1 => rrflag_any w1 F g (rdRow 20 sk).2 h1
      have t3 := fun w1 h1 => rrrow_any w1 F g (rdFlag (rdRow 20 sk).2).2 h1 20 hl1
      generalize rdRow 20 (rdFlag (rdRow 20 sk).2).2 = y3 at t3 hsucc
      generalize rdFlag (rdRow 20 sk).2 = y2 at t2 t3 hsucc
      generalize rdRow 20 sk = y1 at t1 t2 hsucc
      obtain ⟨x1, z1⟩ := y1
      obtain ⟨x2, z2⟩ := y2
      obtain ⟨x3, z3⟩ := y3
      simp only at t1 t2 t3 hsucc
      have HS := Lib.hid hsucc
      have T1 := Lib.hid t1
      have T2 := Lib.hid t2
      have T3 := Lib.hid t3
      clear hsucc t1 t2 t3 hkk hx hl1 hsk
      obtain ⟨wB, hwB⟩ : ∃ wB, wB = wr := ⟨_, rfl⟩
      rw [← hwB] at hr ho hf ⊢
      clear hwB
      obtain ⟨X, hX⟩ : ∃ X, X = wB.heap.size := ⟨_, rfl⟩
      obtain ⟨W0, hW0⟩ : ∃ W, W = wB.alloc (.cells #[.string ⟨#[]⟩, .bool false, .string ⟨#[]⟩] 93) := ⟨_, rfl⟩
      have q1 : Nw wB W0 := by rw [hW0]; exact (Fr.refl (fun _ => False) wB).alloc _
      have hAl : ∀ j, inA A j → j < X := by rw [hX]; exact ho.lt
      have hgw : g < X := by rw [hX]; exact hr.lt
      have hFX : ∀ j, F j → j < X := by rw [hX]; exact hr.out.2
      have hwX : w.heap.size ≤ X := by rw [hX]; exact hf.size
      have st0 : RSt false wB W0 F g X 93 (fun w => Own w 93 3 A k c (rdgsCells lk)) sk #[.string ⟨#[]⟩, .bool false, .string ⟨#[]⟩] :=
        ⟨IsRR.fr hr q1 (fun h => h) (fun _ _ h => h), by rw [hW0, hX]; exact Blk.new wB _ _, ho.fr q1 (fun _ _ h => h), Nw.on q1, by omega, fun h => by have := hFX _ h; omega, by omega, stay_own (fun j hj => ⟨by have := hA j hj; omega, by have := hAl j hj; omega⟩)⟩
      have HW0 := Lib.hid hW0
      have HX := Lib.hid hX
      clear hW0 hX q1
      go_upto_region 7 with (fail)
      rw [← HX.out, ← HW0.out]
      go_upto_region 8 with (go_at_call 92; refine (T1.out _ st0.rd).mono ?_; rintro e w1 ⟨Bq1, dq1, rfl, obq1, h1, _⟩; have su1 := st0.callR h1; have c1 : w1.cell? ⟨X, 0, none⟩ = some (.string ⟨#[]⟩) := (by simpa using su1.x.cell 0); have f1 := su1.x.frozen 0; have hcv1 := run_text_sl w1 _ _ dq1 _ obq1.sl)
      obtain ⟨W1, hW1⟩ : ∃ W, W = w1.setCell ⟨X, 0, none⟩ (StrV x1) := ⟨_, rfl⟩
      have st1 : RSt false wB W1 F g X 93 (fun w => Own w 93 3 A k c (rdgsCells lk)) z1 #[StrV x1, .bool false, .string ⟨#[]⟩] := by rw [hW1]; exact su1.set_ 0 (StrV x1)
      have HW1 := Lib.hid hW1
      rw [← HW1.out]
      clear hW1 su1 c1 f1 st0
      clear hcv1
      go_upto_region 9 with (go_at_call 90; refine (T2.out _ st1.rd).mono ?_; rintro e w2 ⟨rfl, h2⟩; have su2 := st1.callR h2; have c2 : w2.cell? ⟨X, 1, none⟩ = some (.bool false) := (by simpa using su2.x.cell 1); have f2 := su2.x.frozen 1)
      obtain ⟨W2, hW2⟩ : ∃ W, W = w2.setCell ⟨X, 1, none⟩ (.bool x2) := ⟨_, rfl⟩
      have st2 : RSt false wB W2 F g X 93 (fun w => Own w 93 3 A k c (rdgsCells lk)) z2 #[StrV x1, .bool x2, .string ⟨#[]⟩] := by rw [hW2]; exact su2.set_ 1 (.bool x2)
      have HW2 := Lib.hid hW2
      rw [← HW2.out]
      clear hW2 su2 c2 f2 st1
      go_upto_region 10 with (go_at_call 92; refine (T3.out _ st2.rd).mono ?_; rintro e w3 ⟨Bq3, dq3, rfl, obq3, h3, _⟩; have su3 := st2.callR h3; have c3 : w3.cell? ⟨X, 2, none⟩ = some (.string ⟨#[]⟩) := (by simpa using su3.x.cell 2); have f3 := su3.x.frozen 2; have hcv3 := run_text_sl w3 _ _ dq3 _ obq3.sl)
      obtain ⟨W3, hW3⟩ : ∃ W, W = w3.setCell ⟨X, 2, none⟩ (StrV x3) := ⟨_, rfl⟩
      have st3 : RSt false wB W3 F g X 93 (fun w => Own w 93 3 A k c (rdgsCells lk)) z3 #[StrV x1, .bool x2, StrV x3] := by rw [hW3]; exact su3.set_ 2 (StrV x3)
      have HW3 := Lib.hid hW3
      rw [← HW3.out]
      clear hW3 su3 c3 f3 st2
      clear hcv3
      have hx3 := st3.x
      have ho3 := st3.k
      have hone : ∀ u ∈ rdgCells (x1, x2, x3), u.oneCell' = true := by
        have := rdgsCells_one [(x1, x2, x3)]
        rwa [show rdgsCells [(x1, x2, x3)] = rdgCells (x1, x2, x3) from by simp [rdgsCells]] at this
      have hby : (k + 1) * 40 ≤ 140737488355328 := by omega
      have hmx : k + 1 ≤ maxLen := by unfold maxLen; omega
      go_wp2_with (first | (refine wpList_load_row rfl 93 _ rfl X rfl 93 _ (0, 0) _ hx3 Tryz.underlying93 rfl rd_size ?_) | (at_builtin; refine wl_append2 rfl _ _ _ rfl 40 (.agg #[.string ⟨#[]⟩, .bool false, .string ⟨#[]⟩]) Tryz.underlying27 info_read rfl (by decide) rfl (ho3.alloc _) rfl (sl_new _ 93 (rdgCells (x1, x2, x3)) _ rfl) rfl hone hby hmx ?_; intro A6 c6 w6 hap6; obtain ⟨o6, f6, a6⟩ := rd_app hap6))
      go_roundw
      case rel =>
        have hs := HS.out
        have hX2 := hx3.lt
        have hA3 : ∀ j, inA A j → ¬ j = g := fun j hj e => by have := hA j hj; omega
        have q3 := (Fr.refl (fun _ => False) W3).alloc (.cells (rdgCells (x1, x2, x3)).toArray 93)
        refine ⟨k + 1, A6, c6, by omega, by go_num, rfl, ?_, ?_, ?_, fun j hj => ?_⟩
        · rw [hs]
          exact (IsRR.fr st3.rd q3 (fun h => h) (fun _ _ h => h)).fr f6 (fun hj => hA3 _ hj rfl) (fun j hj hj2 => by have := hA j hj2; have := hF j hj; omega)
        · rw [hs, rdgsCells_append, show rdgsCells [(x1, x2, x3)] = rdgCells (x1, x2, x3) from by simp [rdgsCells]]
          exact o6
        · exact ((hf.tr st3.fr).tr (Nw.on q3)).trans f6 (fun j hj => .inr (hA j hj))
        · rcases a6 _ hj with h1 | h1
          · exact hA _ h1
          · simp at h1; omega
      case measure => simp [intOf]; omega
    · have hkn : k = n := by omega
      subst hkn
      have hlk := rdRdgs_len k s1
      go_wp2_with fail
      go_ret
      rw [hlk]
      exact ⟨A, c, rfl, ho, ⟨hr, hf⟩, hA⟩
def XasRel (w : World) (F : Nat → Prop) (g : Nat) (n : Nat) (s : Rd) (out okv i : Value) (wr : World) : Prop :=
  ∃ (k : Nat) (A : Option Addr) (c : Nat), k ≤ n ∧ i = .int .i64 k ∧ out = .slice A k c ∧ okv = .bool (rdActs k s).1.2 ∧ IsRR wr F g (rdActs k s).2 ∧ Own wr 91 4 A k c (actsCells (rdActs k s).1.1) ∧ Fr (· = g) w wr ∧ (∀ j, inA A j → w.heap.size ≤ j)
theorem act_bool (ok le : Bool) (nm : Int) (h : 0 ≤ nm) : (ok && (!le || decide (0 < nm))) = (ok && !(le && decide (nm = 0))) := by
  by_cases h0 : nm = 0
  · subst h0; cases ok <;> cases le <;> rfl
  · rw [decide_eq_false h0, decide_eq_true (show 0 < nm by omega)]; cases ok <;> cases le <;> rfl
set_option maxRecDepth 100000 in
set_option maxHeartbeats 8000000 in
theorem xgacts_any (w : World) (F : Nat → Prop) (g : Nat) (s : Rd) (h : IsRR w F g s) (hsz : rdLeft s ≤ 1000000000000) :
    Calls Tryz.prog 89 #[.pointer (some ⟨g, 0, none⟩)] w fun e w' => ∃ A c, e = .returned (.tuple #[.slice A (rdActsN s).1.1.length c, .bool (rdActsN s).1.2]) ∧ Own w' 91 4 A (rdActsN s).1.1.length c (actsCells (rdActsN s).1.1) ∧ RRTo w F g (rdActsN s).2 w' ∧ ∀ j, inA A j → w.heap.size ≤ j := by
  have hg := h.lt
  have hF := h.out.2
  have hN : rdActsN s = rdActs (rdNum 6 s).1.toNat (rdNum 6 s).2 := rfl
  have l1 := Nat.le_trans (rdNum_left 6 s) hsz
  have m1 := rdNum_most 6 s (by omega)
  have n1 := fun w1 h1 => rrnumber_any w1 F g s h1 6 hsz
  rw [hN]
  clear hN
  generalize rdNum 6 s = y at l1 m1 n1 ⊢
  obtain ⟨n, s1⟩ := y
  simp only at l1 m1 n1 ⊢
  obtain ⟨n, rfl⟩ : ∃ k : Nat, n = (k : Int) := ⟨n.toNat, by omega⟩
  have hn6 : n ≤ 6 := by omega
  simp only [Int.toNat_natCast]
  have N1 := Lib.hid n1
  clear n1
  go_enter Tryz.func89, Tryz.ntmps89
  go_wp2_with (go_at_call 88; refine (N1.out _ h).mono ?_; rintro e w1 ⟨rfl, h1⟩)
  go_loopw [5, 6, 7] (fun o ov i wx => XasRel w F g n s1 o ov i wx) (fun _ _ i _ => n - (intOf i).toNat)
  case atStart => exact ⟨0, none, 0, Nat.zero_le _, rfl, rfl, rfl, h1.1, Own.nil _ _ _, h1.2, fun j hj => (inA_none j hj).elim⟩
  case round =>
    clear h1
    obtain ⟨k, A, c, hk, rfl, rfl, rfl, hr, ho, hf, hA⟩ := hrel
    by_cases hlt : k < n
    · have hlk := rdActs_len k s1
      have hsk := Nat.le_trans (rdActs_left k s1) l1
      have hsucc : rdActs (k + 1) s1 = (((rdActs k s1).1.1 ++ [(rdAct (rdActs k s1).2).1.1], (rdActs k s1).1.2 && (rdAct (rdActs k s1).2).1.2), (rdAct (rdActs k s1).2).2) := rfl
      obtain ⟨⟨⟨lk, ok⟩, sk⟩, hkk⟩ : ∃ q, rdActs k s1 = q := ⟨_, rfl⟩
      rw [hkk] at hr ho hlk hsk hsucc ⊢
      simp only at hr ho hlk hsk hsucc ⊢
      have hx : rdAct sk = ((⟨(rdNum 255 sk).1, (rdRow 20 (rdNum 255 sk).2).1, (rdRow 20 (rdRow 20 (rdNum 255 sk).2).2).1, if (rdFlag (rdRow 20 (rdRow 20 (rdNum 255 sk).2).2).2).1 = true then -(rdNum 1073741824 (rdFlag (rdRow 20 (rdRow 20 (rdNum 255 sk).2).2).2).2).1 else (rdNum 1073741824 (rdFlag (rdRow 20 (rdRow 20 (rdNum 255 sk).2).2).2).2).1⟩, !(rdFlag (rdRow 20 (rdRow 20 (rdNum 255 sk).2).2).2).1 || decide (0 < (rdNum 1073741824 (rdFlag (rdRow 20 (rdRow 20 (rdNum 255 sk).2).2).2).2).1)), (rdNum 1073741824 (rdFlag (rdRow 20 (rdRow 20 (rdNum 255 sk).2).2).2).2).2) := rfl
      have l2 := Nat.le_trans (rdNum_left 255 sk) hsk
      have l3 := Nat.le_trans (rdRow_left 20 (rdNum 255 sk).2) l2
      have l4 := Nat.le_trans (rdFlag_left (rdRow 20 (rdRow 20 (rdNum 255 sk).2).2).2) (Nat.le_trans (rdRow_left 20 (rdRow 20 (rdNum 255 sk).2).2) l3)
      have mk := rdNum_most 255 sk (by omega)
      have m5 := rdNum_most 1073741824 (rdFlag (rdRow 20 (rdRow 20 (rdNum 255 sk).2).2).2).2 (by omega)
      rw [hx] at hsucc
      have t1 := fun w1 h1 => rrnumber_any w1 F g sk h1 255 hsk
      have t2 := fun w1 h1 => rrrow_any w1 F g (rdNum 255 sk).2 h1 20 l2
      have t3 := fun w1 h1 => rrrow_any w1 F g (rdRow 20 (rdNum 255 sk).2).2 h1 20 l3
      have t4 := fun w1 h1 => rrflag_any w1 F g (rdRow 20 (rdRow 20 (rdNum 255 sk).2).2).2 h1
      have t5 := fun w1 h1 => rrnumber_any w1 F g (rdFlag (rdRow 20 (rdRow 20 (rdNum 255 sk).2).2).2).2 h1 1073741824 l4
      generalize rdNum 1073741824 (rdFlag (rdRow 20 (rdRow 20 (rdNum 255 sk).2).2).2).2 = y5 at t5 m5 hsucc
      generalize rdFlag (rdRow 20 (rdRow 20 (rdNum 255 sk).2).2).2 = y4 at t4 t5 hsucc
      generalize rdRow 20 (rdRow 20 (rdNum 255 sk).2).2 = y3 at t3 t4 hsucc
      generalize rdRow 20 (rdNum 255 sk).2 = y2 at t2 t3 hsucc
      generalize rdNum 255 sk = y1 at t1 t2 hsucc mk
      obtain ⟨kd, z1⟩ := y1
      obtain ⟨x2, z2⟩ := y2
      obtain ⟨x3, z3⟩ := y3
      obtain ⟨le, z4⟩ := y4
      obtain ⟨nm, z5⟩ := y5
      simp only at t1 t2 t3 t4 t5 mk m5 hsucc
      rw [act_bool ok le nm m5.1] at hsucc
      have hkm : kd % 256 = kd := by omega
      have HS := Lib.hid hsucc
      have T1 := Lib.hid t1
      have T2 := Lib.hid t2
      have T3 := Lib.hid t3
      have T4 := Lib.hid t4
      have T5 := Lib.hid t5
      clear hsucc t1 t2 t3 t4 t5 hkk hx l2 l3 l4 hsk
      obtain ⟨wB, hwB⟩ : ∃ wB, wB = wr := ⟨_, rfl⟩
      rw [← hwB] at hr ho hf ⊢
      clear hwB
      obtain ⟨X, hX⟩ : ∃ X, X = wB.heap.size := ⟨_, rfl⟩
      obtain ⟨W0, hW0⟩ : ∃ W, W = wB.alloc (.cells #[.int .u8 0, .string ⟨#[]⟩, .string ⟨#[]⟩, .int .i64 0] 91) := ⟨_, rfl⟩
      have q1 : Nw wB W0 := by rw [hW0]; exact (Fr.refl (fun _ => False) wB).alloc _
      have hAl : ∀ j, inA A j → j < X := by rw [hX]; exact ho.lt
      have hgw : g < X := by rw [hX]; exact hr.lt
      have hFX : ∀ j, F j → j < X := by rw [hX]; exact hr.out.2
      have hwX : w.heap.size ≤ X := by rw [hX]; exact hf.size
      have st0 : RSt false wB W0 F g X 91 (fun w => Own w 91 4 A k c (actsCells lk)) sk #[.int .u8 0, .string ⟨#[]⟩, .string ⟨#[]⟩, .int .i64 0] :=
        ⟨IsRR.fr hr q1 (fun h => h) (fun _ _ h => h), by rw [hW0, hX]; exact Blk.new wB _ _, ho.fr q1 (fun _ _ h => h), Nw.on q1, by omega, fun h => by have := hFX _ h; omega, by omega, stay_own (fun j hj => ⟨by have := hA j hj; omega, by have := hAl j hj; omega⟩)⟩
      have HW0 := Lib.hid hW0
      have HX := Lib.hid hX
      clear hW0 hX q1
      go_upto_region 8 with (fail)
      rw [← HX.out, ← HW0.out]
      go_upto_region 9 with (go_at_call 88; refine (T1.out _ st0.rd).mono ?_; rintro e w1 ⟨rfl, h1⟩; have su1 := st0.callR h1; have c1 : w1.cell? ⟨X, 0, none⟩ = some (.int .u8 0) := (by simpa using su1.x.cell 0); have f1 := su1.x.frozen 0)
      obtain ⟨W1, hW1⟩ : ∃ W, W = w1.setCell ⟨X, 0, none⟩ (.int .u8 kd) := ⟨_, rfl⟩
      have st1 : RSt false wB W1 F g X 91 (fun w => Own w 91 4 A k c (actsCells lk)) z1 #[.int .u8 kd, .string ⟨#[]⟩, .string ⟨#[]⟩, .int .i64 0] := by rw [hW1]; exact su1.set_ 0 (.int .u8 kd)
      have HW1 := Lib.hid hW1
      rw [← HW1.out]
      clear hW1 su1 c1 f1 st0
      go_upto_region 10 with (go_at_call 92; refine (T2.out _ st1.rd).mono ?_; rintro e w2 ⟨Bq2, dq2, rfl, obq2, h2, _⟩; have su2 := st1.callR h2; have c2 : w2.cell? ⟨X, 1, none⟩ = some (.string ⟨#[]⟩) := (by simpa using su2.x.cell 1); have f2 := su2.x.frozen 1; have hcv2 := run_text_sl w2 _ _ dq2 _ obq2.sl)
      obtain ⟨W2, hW2⟩ : ∃ W, W = w2.setCell ⟨X, 1, none⟩ (StrV x2) := ⟨_, rfl⟩
      have st2 : RSt false wB W2 F g X 91 (fun w => Own w 91 4 A k c (actsCells lk)) z2 #[.int .u8 kd, StrV x2, .string ⟨#[]⟩, .int .i64 0] := by rw [hW2]; exact su2.set_ 1 (StrV x2)
      have HW2 := Lib.hid hW2
      rw [← HW2.out]
      clear hW2 su2 c2 f2 st1
      clear hcv2
      go_upto_region 11 with (go_at_call 92; refine (T3.out _ st2.rd).mono ?_; rintro e w3 ⟨Bq3, dq3, rfl, obq3, h3, _⟩; have su3 := st2.callR h3; have c3 : w3.cell? ⟨X, 2, none⟩ = some (.string ⟨#[]⟩) := (by simpa using su3.x.cell 2); have f3 := su3.x.frozen 2; have hcv3 := run_text_sl w3 _ _ dq3 _ obq3.sl)
      obtain ⟨W3, hW3⟩ : ∃ W, W = w3.setCell ⟨X, 2, none⟩ (StrV x3) := ⟨_, rfl⟩
      have st3 : RSt false wB W3 F g X 91 (fun w => Own w 91 4 A k c (actsCells lk)) z3 #[.int .u8 kd, StrV x2, StrV x3, .int .i64 0] := by rw [hW3]; exact su3.set_ 2 (StrV x3)
      have HW3 := Lib.hid hW3
      rw [← HW3.out]
      clear hW3 su3 c3 f3 st2
      clear hcv3
      go_upto_region 12 with (go_at_call 90; refine (T4.out _ st3.rd).mono ?_; rintro e W4 ⟨rfl, h4⟩)
      have st4 := st3.callR h4
      clear st3 h4
      go_upto_region 13 with (go_at_call 88; refine (T5.out _ st4.rd).mono ?_; rintro e w5 ⟨rfl, h5⟩; have su5 := st4.callR h5; have c5 : w5.cell? ⟨X, 3, none⟩ = some (.int .i64 0) := (by simpa using su5.x.cell 3); have f5 := su5.x.frozen 3)
      obtain ⟨W5, hW5⟩ : ∃ W, W = w5.setCell ⟨X, 3, none⟩ (I64 nm) := ⟨_, rfl⟩
      have st5 : RSt false wB W5 F g X 91 (fun w => Own w 91 4 A k c (actsCells lk)) z5 #[.int .u8 kd, StrV x2, StrV x3, I64 nm] := by rw [hW5]; exact su5.set_ 3 (I64 nm)
      have HW5 := Lib.hid hW5
      rw [← HW5.out]
      clear hW5 su5 c5 f5 st4
      have c3 : W5.cell? ⟨X, 3, none⟩ = some (I64 nm) := by simpa using st5.x.cell 3
      have f3 := st5.x.frozen 3
      have hby : (k + 1) * 48 ≤ 140737488355328 := by omega
      have hmx : k + 1 ≤ maxLen := by unfold maxLen; omega
      have hA3 : ∀ j, inA A j → ¬ j = g := fun j hj e => by have := hA j hj; omega
      have fin : ∀ (V w6 : World) (at_ : ActT) (okk : Bool) (A6 : Option Addr) (c6 : Nat), RSt false wB V F g X 91 (fun w => Own w 91 4 A k c (actsCells lk)) z5 (actCells at_).toArray → Fr (inA A) (V.alloc (.cells (actCells at_).toArray 91)) w6 → (∀ j, inA A6 j → inA A j ∨ (V.alloc (.cells (actCells at_).toArray 91)).heap.size ≤ j) →
          Own w6 91 4 A6 (k + 1) c6 (actsCells lk ++ actCells at_) → rdActs (k + 1) s1 = ((lk ++ [at_], okk), z5) → XasRel w F g n s1 (.slice A6 (k + 1) c6) (.bool okk) (.int .i64 ((k + 1 : Nat))) w6 := fun V w6 at_ okk A6 c6 stV f6 a6 o6 hs => by
        have q3 := (Fr.refl (fun _ => False) V).alloc (.cells (actCells at_).toArray 91)
        have hV := stV.x.lt
        refine ⟨k + 1, A6, c6, by omega, rfl, rfl, by rw [hs], ?_, ?_, ?_, fun j hj => ?_⟩
        · rw [hs]
          exact (IsRR.fr stV.rd q3 (fun h => h) (fun _ _ h => h)).fr f6 (fun hj => hA3 _ hj rfl) (fun j hj hj2 => by have := hA j hj2; have := hF j hj; omega)
        · rw [hs, actsCells_append, show actsCells [at_] = actCells at_ from by simp [actsCells]]
          exact o6
        · exact ((hf.tr stV.fr).tr (Nw.on q3)).trans f6 (fun j hj => .inr (hA j hj))
        · rcases a6 _ hj with h1 | h1
          · exact hA _ h1
          · simp at h1; omega
      have FIN := Lib.hid fin
      clear fin
      have hon := fun (x : ActT) => (show ∀ u ∈ actCells x, u.oneCell' = true from by
        have := actsCells_one [x]
        rwa [show actsCells [x] = actCells x from by simp [actsCells]] at this)
      cases le with
      | false =>
        cases ok with
        | false =>
          have st6 : RSt false wB W5 F g X 91 (fun w => Own w 91 4 A k c (actsCells lk)) z5 (actCells ⟨kd, x2, x3, nm⟩).toArray := st5
          have hx6 : Blk W5 X 91 #[.int .u8 kd, StrV x2, StrV x3, I64 (nm)] := st6.x
          have ho6 := st6.k
          go_wp2_with (first | (refine wpList_load_row rfl 91 _ rfl X rfl 91 _ (0, 0) _ hx6 Tryz.underlying91 rfl act_size ?_) | (at_builtin; refine wl_append2 rfl _ _ _ rfl 48 (.agg #[.int .u8 0, .string ⟨#[]⟩, .string ⟨#[]⟩, .int .i64 0]) Tryz.underlying26 info_act rfl (by decide) rfl (ho6.alloc _) rfl (sl_new _ 91 (actCells ⟨kd, x2, x3, nm⟩) _ rfl) rfl (hon _) hby hmx ?_; intro A6 c6 w6 hap6; obtain ⟨o6, f6, a6⟩ := act_app hap6))
          go_roundw
          case rel => exact FIN.out _ _ ⟨kd, x2, x3, nm⟩ false _ _ st6 f6 a6 o6 (by rw [HS.out]; rfl)
          case measure => simp [intOf]; omega
        | true =>
          have st6 : RSt false wB W5 F g X 91 (fun w => Own w 91 4 A k c (actsCells lk)) z5 (actCells ⟨kd, x2, x3, nm⟩).toArray := st5
          have hx6 : Blk W5 X 91 #[.int .u8 kd, StrV x2, StrV x3, I64 (nm)] := st6.x
          have ho6 := st6.k
          go_wp2_with (first | (refine wpList_load_row rfl 91 _ rfl X rfl 91 _ (0, 0) _ hx6 Tryz.underlying91 rfl act_size ?_) | (at_builtin; refine wl_append2 rfl _ _ _ rfl 48 (.agg #[.int .u8 0, .string ⟨#[]⟩, .string ⟨#[]⟩, .int .i64 0]) Tryz.underlying26 info_act rfl (by decide) rfl (ho6.alloc _) rfl (sl_new _ 91 (actCells ⟨kd, x2, x3, nm⟩) _ rfl) rfl (hon _) hby hmx ?_; intro A6 c6 w6 hap6; obtain ⟨o6, f6, a6⟩ := act_app hap6))
          go_roundw
          case rel => exact FIN.out _ _ ⟨kd, x2, x3, nm⟩ true _ _ st6 f6 a6 o6 (by rw [HS.out]; rfl)
          case measure => simp [intOf]; omega
      | true =>
        by_cases h0 : nm = 0
        · subst h0
          cases ok with
          | false =>
            obtain ⟨W6, hW6⟩ : ∃ W, W = W5.setCell ⟨X, 3, none⟩ (I64 (0)) := ⟨_, rfl⟩
            have st6 : RSt false wB W6 F g X 91 (fun w => Own w 91 4 A k c (actsCells lk)) z5 (actCells ⟨kd, x2, x3, 0⟩).toArray := by rw [hW6]; exact st5.set_ 3 _
            have HW6 := Lib.hid hW6
            clear hW6
            go_upto_region 16 with (fail)
            rw [← HW6.out]
            clear c3 f3 st5
            have hx6 : Blk W6 X 91 #[.int .u8 kd, StrV x2, StrV x3, I64 (0)] := st6.x
            have ho6 := st6.k
            go_wp2_with (first | (refine wpList_load_row rfl 91 _ rfl X rfl 91 _ (0, 0) _ hx6 Tryz.underlying91 rfl act_size ?_) | (at_builtin; refine wl_append2 rfl _ _ _ rfl 48 (.agg #[.int .u8 0, .string ⟨#[]⟩, .string ⟨#[]⟩, .int .i64 0]) Tryz.underlying26 info_act rfl (by decide) rfl (ho6.alloc _) rfl (sl_new _ 91 (actCells ⟨kd, x2, x3, 0⟩) _ rfl) rfl (hon _) hby hmx ?_; intro A6 c6 w6 hap6; obtain ⟨o6, f6, a6⟩ := act_app hap6))
            go_roundw
            case rel => exact FIN.out _ _ ⟨kd, x2, x3, 0⟩ false _ _ st6 f6 a6 o6 (by rw [HS.out]; rfl)
            case measure => simp [intOf]; omega
          | true =>
            obtain ⟨W6, hW6⟩ : ∃ W, W = W5.setCell ⟨X, 3, none⟩ (I64 (0)) := ⟨_, rfl⟩
            have st6 : RSt false wB W6 F g X 91 (fun w => Own w 91 4 A k c (actsCells lk)) z5 (actCells ⟨kd, x2, x3, 0⟩).toArray := by rw [hW6]; exact st5.set_ 3 _
            have HW6 := Lib.hid hW6
            clear hW6
            go_upto_region 16 with (fail)
            rw [← HW6.out]
            clear c3 f3 st5
            have hx6 : Blk W6 X 91 #[.int .u8 kd, StrV x2, StrV x3, I64 (0)] := st6.x
            have ho6 := st6.k
            go_wp2_with (first | (refine wpList_load_row rfl 91 _ rfl X rfl 91 _ (0, 0) _ hx6 Tryz.underlying91 rfl act_size ?_) | (at_builtin; refine wl_append2 rfl _ _ _ rfl 48 (.agg #[.int .u8 0, .string ⟨#[]⟩, .string ⟨#[]⟩, .int .i64 0]) Tryz.underlying26 info_act rfl (by decide) rfl (ho6.alloc _) rfl (sl_new _ 91 (actCells ⟨kd, x2, x3, 0⟩) _ rfl) rfl (hon _) hby hmx ?_; intro A6 c6 w6 hap6; obtain ⟨o6, f6, a6⟩ := act_app hap6))
            go_roundw
            case rel => exact FIN.out _ _ ⟨kd, x2, x3, 0⟩ false _ _ st6 f6 a6 o6 (by rw [HS.out]; rfl)
            case measure => simp [intOf]; omega
        · cases ok with
          | false =>
            obtain ⟨W6, hW6⟩ : ∃ W, W = W5.setCell ⟨X, 3, none⟩ (I64 (-nm)) := ⟨_, rfl⟩
            have st6 : RSt false wB W6 F g X 91 (fun w => Own w 91 4 A k c (actsCells lk)) z5 (actCells ⟨kd, x2, x3, -nm⟩).toArray := by rw [hW6]; exact st5.set_ 3 _
            have HW6 := Lib.hid hW6
            clear hW6
            go_upto_region 16 with (fail)
            rw [← HW6.out]
            clear c3 f3 st5
            have hx6 : Blk W6 X 91 #[.int .u8 kd, StrV x2, StrV x3, I64 (-nm)] := st6.x
            have ho6 := st6.k
            go_wp2_with (first | (refine wpList_load_row rfl 91 _ rfl X rfl 91 _ (0, 0) _ hx6 Tryz.underlying91 rfl act_size ?_) | (at_builtin; refine wl_append2 rfl _ _ _ rfl 48 (.agg #[.int .u8 0, .string ⟨#[]⟩, .string ⟨#[]⟩, .int .i64 0]) Tryz.underlying26 info_act rfl (by decide) rfl (ho6.alloc _) rfl (sl_new _ 91 (actCells ⟨kd, x2, x3, -nm⟩) _ rfl) rfl (hon _) hby hmx ?_; intro A6 c6 w6 hap6; obtain ⟨o6, f6, a6⟩ := act_app hap6))
            go_roundw
            case rel => exact FIN.out _ _ ⟨kd, x2, x3, -nm⟩ false _ _ st6 f6 a6 o6 (by rw [HS.out]; rfl)
            case measure => simp [intOf]; omega
          | true =>
            have h0b : (nm == 0) = false := beq_false_of_ne h0
            obtain ⟨W6, hW6⟩ : ∃ W, W = W5.setCell ⟨X, 3, none⟩ (I64 (-nm)) := ⟨_, rfl⟩
            have st6 : RSt false wB W6 F g X 91 (fun w => Own w 91 4 A k c (actsCells lk)) z5 (actCells ⟨kd, x2, x3, -nm⟩).toArray := by rw [hW6]; exact st5.set_ 3 _
            have HW6 := Lib.hid hW6
            clear hW6
            go_upto_region 16 with (fail)
            rw [← HW6.out]
            clear c3 f3 st5
            have hx6 : Blk W6 X 91 #[.int .u8 kd, StrV x2, StrV x3, I64 (-nm)] := st6.x
            have ho6 := st6.k
            go_wp2_with (first | (refine wpList_load_row rfl 91 _ rfl X rfl 91 _ (0, 0) _ hx6 Tryz.underlying91 rfl act_size ?_) | (at_builtin; refine wl_append2 rfl _ _ _ rfl 48 (.agg #[.int .u8 0, .string ⟨#[]⟩, .string ⟨#[]⟩, .int .i64 0]) Tryz.underlying26 info_act rfl (by decide) rfl (ho6.alloc _) rfl (sl_new _ 91 (actCells ⟨kd, x2, x3, -nm⟩) _ rfl) rfl (hon _) hby hmx ?_; intro A6 c6 w6 hap6; obtain ⟨o6, f6, a6⟩ := act_app hap6))
            go_roundw
            case rel => exact FIN.out _ _ ⟨kd, x2, x3, -nm⟩ true _ _ st6 f6 a6 o6 (by rw [HS.out]; rw [decide_eq_false h0]; rfl)
            case measure => simp [intOf]; omega
    · have hkn : k = n := by omega
      subst hkn
      have hlk := rdActs_len k s1
      go_wp2_with fail
      go_ret2
      rw [hlk]
      exact ⟨A, c, rfl, ho, ⟨hr, hf⟩, hA⟩
end Go.Proofs.YtkjnlhidnkbelaaGreatDoor
/- Orders and answers read by the document. (Printed by genrk.py.) -/
namespace Go.Proofs.YtkjnlhidnkbelaaGreatDoor
open Go Go.RowKit
set_option linter.unusedVariables false
set_option linter.unusedSimpArgs false
def XGetATo (w : World) (r : Option AnsF) (e : Ending) (w' : World) : Prop := Nw w w' ∧ match r with
  | none => e = .returned (.tuple #[.agg zA, .int .i64 4])
  | some x => ∃ p, e = .returned (.tuple #[.agg (afA x p), .int .i64 0]) ∧ AnsOwn w w' x p
set_option maxRecDepth 100000 in
set_option maxHeartbeats 8000000 in
theorem xgetAns_any (w : World) (F0 : Nat → Prop) (A : Option Addr) (c : Nat) (bs : List UInt8) (hs : Sl w F0 A (bs.map B8)) (hFl : ∀ k, F0 k → k < w.heap.size) (hc1 : bs.length ≤ c) (hc2 : c ≤ maxLen) (hsz : bs.length ≤ 1000000000) :
    Calls Tryz.prog 36 #[.slice A bs.length c] w fun e w' => XGetATo w (ansGet bs) e w' := by
  have hgq : ansGet bs = if (decide (rdEnd (rdAns (some bs)).2 = 0) && ansOk (rdAns (some bs)).1) = true then some (rdAns (some bs)).1 else none := rfl
  obtain ⟨r, hr⟩ : ∃ r, ansGet bs = r := ⟨_, rfl⟩
  rw [hr] at hgq ⊢
  clear hr
  have hl0 : rdLeft (some bs) ≤ 1000000000000 := by show bs.length ≤ _; omega
  obtain ⟨s0, hs0⟩ : ∃ s0, s0 = some bs := ⟨_, rfl⟩
  rw [← hs0] at hgq hl0
  have hq : rdAns s0 = (⟨(rdNum 99 s0).1, ((rdNum 1073741824 (rdNum 99 s0).2).1, (rdNum 1073741824 (rdNum 1073741824 (rdNum 99 s0).2).2).1), (rdFlag (rdNum 1073741824 (rdNum 1073741824 (rdNum 99 s0).2).2).2).1, (rdFlag (rdFlag (rdNum 1073741824 (rdNum 1073741824 (rdNum 99 s0).2).2).2).2).1, (rdRdgsN (rdFlag (rdFlag (rdNum 1073741824 (rdNum 1073741824 (rdNum 99 s0).2).2).2).2).2).1, (rdNum 1073741824 (rdRdgsN (rdFlag (rdFlag (rdNum 1073741824 (rdNum 1073741824 (rdNum 99 s0).2).2).2).2).2).2).1, (rdNum 1073741824 (rdNum 1073741824 (rdRdgsN (rdFlag (rdFlag (rdNum 1073741824 (rdNum 1073741824 (rdNum 99 s0).2).2).2).2).2).2).2).1, (rdRow 131072 (rdNum 1073741824 (rdNum 1073741824 (rdRdgsN (rdFlag (rdFlag (rdNum 1073741824 (rdNum 1073741824 (rdNum 99 s0).2).2).2).2).2).2).2).2).1⟩, (rdRow 131072 (rdNum 1073741824 (rdNum 1073741824 (rdRdgsN (rdFlag (rdFlag (rdNum 1073741824 (rdNum 1073741824 (rdNum 99 s0).2).2).2).2).2).2).2).2).2) := rfl
  rw [hq] at hgq
  clear hq
  simp only at hgq
  have L1 := Nat.le_trans (rdNum_left 99 s0) hl0
  have n1 := fun w1 g h1 => rrnumber_any w1 F0 g s0 h1 99 hl0
  obtain ⟨⟨er, s1⟩, y1⟩ : ∃ q, rdNum 99 s0 = q := ⟨_, rfl⟩
  rw [y1] at hgq L1 n1
  simp only at hgq L1 n1
  have n2 := fun w1 g h1 => rrnumber_any w1 F0 g s1 h1 1073741824 L1
  have L1b := Nat.le_trans (rdNum_left 1073741824 s1) L1
  have n2b := fun w1 g h1 => rrnumber_any w1 F0 g (rdNum 1073741824 s1).2 h1 1073741824 L1b
  have L2 := Nat.le_trans (Nat.le_trans (rdNum_left 1073741824 (rdNum 1073741824 s1).2) (rdNum_left 1073741824 s1)) L1
  generalize rdNum 1073741824 (rdNum 1073741824 s1).2 = yb at hgq n2b L2
  generalize rdNum 1073741824 s1 = ya at hgq n2 n2b
  obtain ⟨a, za⟩ := ya
  obtain ⟨b, s2⟩ := yb
  simp only at hgq n2b L2
  have L3 := Nat.le_trans (rdFlag_left s2) L2
  have n3 := fun w1 g h1 => rrflag_any w1 F0 g s2 h1
  generalize rdFlag s2 = y at hgq L3 n3
  obtain ⟨is, s3⟩ := y
  simp only at hgq L3 n3
  have L4 := Nat.le_trans (rdFlag_left s3) L3
  have n4 := fun w1 g h1 => rrflag_any w1 F0 g s3 h1
  generalize rdFlag s3 = y at hgq L4 n4
  obtain ⟨cm, s4⟩ := y
  simp only at hgq L4 n4
  have L5 := Nat.le_trans (rdRdgsN_left s4) L4
  have n5 := fun w1 g h1 => xgreads_any w1 F0 g s4 h1 L4
  have z5 := rdRdgsN_sz s4
  generalize rdRdgsN s4 = y at hgq L5 n5 z5
  obtain ⟨rl, s5⟩ := y
  simp only at hgq L5 n5 z5
  have n6 := fun w1 g h1 => rrnumber_any w1 F0 g s5 h1 1073741824 L5
  have L5b := Nat.le_trans (rdNum_left 1073741824 s5) L5
  have n6b := fun w1 g h1 => rrnumber_any w1 F0 g (rdNum 1073741824 s5).2 h1 1073741824 L5b
  have L6 := Nat.le_trans (Nat.le_trans (rdNum_left 1073741824 (rdNum 1073741824 s5).2) (rdNum_left 1073741824 s5)) L5
  generalize rdNum 1073741824 (rdNum 1073741824 s5).2 = yb at hgq n6b L6
  generalize rdNum 1073741824 s5 = ya at hgq n6 n6b
  obtain ⟨sc, zb⟩ := ya
  obtain ⟨sg, s6⟩ := yb
  simp only at hgq n6b L6
  have n7 := fun w1 g h1 => rrrow_any w1 F0 g s6 h1 131072 L6
  have z7 := rdRow_len 131072 (by omega) s6
  generalize rdRow 131072 s6 = y at hgq n7 z7
  obtain ⟨bb, s7⟩ := y
  simp only at hgq n7 z7
  have n8 := fun w1 g h1 => rrend_any w1 F0 g s7 h1
  generalize rdEnd s7 = ed at hgq n8
  obtain ⟨nr, hnr⟩ : ∃ nr, rl.length = nr := ⟨_, rfl⟩
  obtain ⟨nb, hnb⟩ : ∃ nb, bb.length = nb := ⟨_, rfl⟩
  rw [hnr] at n5
  rw [hnb] at n7
  obtain ⟨n0, hn0⟩ : ∃ n0, n0 = bs.length := ⟨_, rfl⟩
  obtain ⟨D, hD⟩ : ∃ D, D = w.heap.size := ⟨_, rfl⟩
  obtain ⟨g, hg⟩ : ∃ g, g = w.heap.size + 1 := ⟨_, rfl⟩
  obtain ⟨X, hX⟩ : ∃ X, X = w.heap.size + 1 + 1 := ⟨_, rfl⟩
  obtain ⟨W0, hW0⟩ : ∃ W0, W0 = ((w.alloc (.cells zA 60)).alloc (.cells #[.slice A n0 c, .bool false] 157)).alloc (.cells zA 60) := ⟨_, rfl⟩
  have q0 : Nw w W0 := by rw [hW0]; exact (((Fr.refl (fun _ => False) w).alloc _).alloc _).alloc _
  have hz0 : W0.heap.size = D + 3 := by rw [hW0, hD]; simp
  have d0 : Blk W0 D 60 zA := by rw [hW0, hD]; exact ((Blk.new w _ _).alloc _).alloc _
  have g0 : Blk W0 g 157 #[.slice A n0 c, .bool false] := by rw [hW0, hg]; exact (show Blk ((w.alloc (.cells zA 60)).alloc (.cells #[.slice A n0 c, .bool false] 157)) (w.heap.size + 1) _ _ by simpa using Blk.new (w.alloc (.cells zA 60)) 157 #[.slice A n0 c, .bool false]).alloc _
  have x0 : Blk W0 X 60 zA := by rw [hW0, hX]; simpa using Blk.new ((w.alloc (.cells zA 60)).alloc (.cells #[.slice A n0 c, .bool false] 157)) 60 zA
  have r0 : IsRR W0 F0 g s0 := by
    rw [hs0]
    exact ⟨A, c, by rw [← hn0]; exact g0, hc1, hc2, hs.fr q0 (fun _ _ h => h), fun h => by have := hFl _ h; omega, fun k hk => by have := hFl _ hk; omega⟩
  have st0 : RSt false w W0 F0 g X 60 (fun w => Blk w D 60 zA) s0 zA := ⟨r0, x0, d0, Nw.on q0, by omega, fun h => by have := hFl _ h; omega, by omega, stay_blk (by omega) (by omega)⟩
  have HG := Lib.hid hgq
  have HNR := Lib.hid hnr
  have HNB := Lib.hid hnb
  have HD := Lib.hid hD
  have HW0 := Lib.hid hW0
  have HGG0 := Lib.hid hg
  have HX := Lib.hid hX
  have HN0 := Lib.hid hn0
  have hDX : D < g ∧ g < X := by omega
  have N1 := Lib.hid (fun w1 h1 => n1 w1 g h1)
  have N2 := Lib.hid (fun w1 h1 => n2 w1 g h1)
  have N3 := Lib.hid (fun w1 h1 => n2b w1 g h1)
  have N4 := Lib.hid (fun w1 h1 => n3 w1 g h1)
  have N5 := Lib.hid (fun w1 h1 => n4 w1 g h1)
  have N6 := Lib.hid (fun w1 h1 => n5 w1 g h1)
  have N7 := Lib.hid (fun w1 h1 => n6 w1 g h1)
  have N8 := Lib.hid (fun w1 h1 => n6b w1 g h1)
  have N9 := Lib.hid (fun w1 h1 => n7 w1 g h1)
  have N10 := Lib.hid (fun w1 h1 => n8 w1 g h1)
  clear hgq hnr hnb hD hW0 hg hX n1 n2 n2b n3 n4 n5 n6 n6b n7 n8 L1 L1b L2 L3 L4 L5 L5b L6 y1 hs0 hl0 d0 g0 x0 r0
  rw [← HN0.out]
  clear hn0
  go_enter Tryz.func36, Tryz.ntmps36
  go_upto_region 3 with (fail)
  rw [← HW0.out, ← HX.out, ← HGG0.out, ← HD.out]
  go_upto_region 4 with (go_at_call 88; refine (N1.out _ st0.rd).mono ?_; rintro e w1 ⟨rfl, h1⟩; have su1 := st0.callR h1; have c1 : w1.cell? ⟨X, 0, none⟩ = some (I64 0) := (by simpa using su1.x.cell 0); have f1 := su1.x.frozen 0)
  obtain ⟨W1, hW1⟩ : ∃ W, W = w1.setCell ⟨X, 0, none⟩ (I64 er) := ⟨_, rfl⟩
  have st1 : RSt false w W1 F0 g X 60 (fun w => Blk w D 60 zA) s1 #[I64 er, I64 0, I64 0, .bool false, .bool false, .slice none 0 0, I64 0, I64 0, .slice none 0 0] := by rw [hW1]; exact su1.set_ 0 (I64 er)
  have HW1 := Lib.hid hW1
  rw [← HW1.out]
  clear hW1 su1 c1 f1 st0
  go_upto_region 5 with (go_at_call 88; refine (N2.out _ st1.rd).mono ?_; rintro e w2 ⟨rfl, h2⟩; have su2 := st1.callR h2; have c2 : w2.cell? ⟨X, 1, none⟩ = some (I64 0) := (by simpa using su2.x.cell 1); have f2 := su2.x.frozen 1)
  obtain ⟨W2, hW2⟩ : ∃ W, W = w2.setCell ⟨X, 1, none⟩ (I64 a) := ⟨_, rfl⟩
  have st2 : RSt false w W2 F0 g X 60 (fun w => Blk w D 60 zA) za #[I64 er, I64 a, I64 0, .bool false, .bool false, .slice none 0 0, I64 0, I64 0, .slice none 0 0] := by rw [hW2]; exact su2.set_ 1 (I64 a)
  have HW2 := Lib.hid hW2
  rw [← HW2.out]
  clear hW2 su2 c2 f2 st1
  go_upto_region 6 with (go_at_call 88; refine (N3.out _ st2.rd).mono ?_; rintro e w3 ⟨rfl, h3⟩; have su3 := st2.callR h3; have c3 : w3.cell? ⟨X, 2, none⟩ = some (I64 0) := (by simpa using su3.x.cell 2); have f3 := su3.x.frozen 2)
  obtain ⟨W3, hW3⟩ : ∃ W, W = w3.setCell ⟨X, 2, none⟩ (I64 b) := ⟨_, rfl⟩
  have st3 : RSt false w W3 F0 g X 60 (fun w => Blk w D 60 zA) s2 #[I64 er, I64 a, I64 b, .bool false, .bool false, .slice none 0 0, I64 0, I64 0, .slice none 0 0] := by rw [hW3]; exact su3.set_ 2 (I64 b)
  have HW3 := Lib.hid hW3
  rw [← HW3.out]
  clear hW3 su3 c3 f3 st2
  go_upto_region 7 with (go_at_call 90; refine (N4.out _ st3.rd).mono ?_; rintro e w4 ⟨rfl, h4⟩; have su4 := st3.callR h4; have c4 : w4.cell? ⟨X, 3, none⟩ = some (.bool false) := (by simpa using su4.x.cell 3); have f4 := su4.x.frozen 3)
  obtain ⟨W4, hW4⟩ : ∃ W, W = w4.setCell ⟨X, 3, none⟩ (.bool is) := ⟨_, rfl⟩
  have st4 : RSt false w W4 F0 g X 60 (fun w => Blk w D 60 zA) s3 #[I64 er, I64 a, I64 b, .bool is, .bool false, .slice none 0 0, I64 0, I64 0, .slice none 0 0] := by rw [hW4]; exact su4.set_ 3 (.bool is)
  have HW4 := Lib.hid hW4
  rw [← HW4.out]
  clear hW4 su4 c4 f4 st3
  go_upto_region 8 with (go_at_call 90; refine (N5.out _ st4.rd).mono ?_; rintro e w5 ⟨rfl, h5⟩; have su5 := st4.callR h5; have c5 : w5.cell? ⟨X, 4, none⟩ = some (.bool false) := (by simpa using su5.x.cell 4); have f5 := su5.x.frozen 4)
  obtain ⟨W5, hW5⟩ : ∃ W, W = w5.setCell ⟨X, 4, none⟩ (.bool cm) := ⟨_, rfl⟩
  have st5 : RSt false w W5 F0 g X 60 (fun w => Blk w D 60 zA) s4 #[I64 er, I64 a, I64 b, .bool is, .bool cm, .slice none 0 0, I64 0, I64 0, .slice none 0 0] := by rw [hW5]; exact su5.set_ 4 (.bool cm)
  have HW5 := Lib.hid hW5
  rw [← HW5.out]
  clear hW5 su5 c5 f5 st4
  have xl6 := st5.x.lt
  go_upto_region 9 with (go_at_call 91; refine (N6.out _ st5.rd).mono ?_; rintro e w6 ⟨Ar, cr, rfl, ho6, h6, hA6⟩; have su6 := st5.callR h6; have c6 : w6.cell? ⟨X, 5, none⟩ = some (.slice none 0 0) := (by simpa using su6.x.cell 5); have f6 := su6.x.frozen 5)
  obtain ⟨W6, hW6⟩ : ∃ W, W = w6.setCell ⟨X, 5, none⟩ (.slice Ar nr cr) := ⟨_, rfl⟩
  have su6' : RSt false w W6 F0 g X 60 (fun w => Blk w D 60 zA) s5 #[I64 er, I64 a, I64 b, .bool is, .bool cm, .slice Ar nr cr, I64 0, I64 0, .slice none 0 0] := by rw [hW6]; exact su6.set_ 5 (.slice Ar nr cr)
  have far6 : ∀ k, inA Ar k → k ≠ g ∧ k ≠ X := fun k hk => ⟨fun e => by have := hA6 k hk; omega, fun e => by have := hA6 k hk; omega⟩
  have own6 : Own W6 93 3 Ar nr cr (rdgsCells rl) := by rw [hW6]; exact ho6.setCell (p := ⟨X, 5, none⟩) (fun hk => (far6 _ hk).2 rfl) _
  have new6 : ∀ k, inA Ar k → w.heap.size ≤ k := fun k hk => Nat.le_trans st5.fr.size (hA6 k hk)
  have nd6 : ∀ k, inA Ar k → k ≠ D := fun k hk => by have := hA6 k hk; omega
  have st6 := su6'.more (K' := fun w => Own w 93 3 Ar nr cr (rdgsCells rl)) own6 (stay_own far6)
  have HW6 := Lib.hid hW6
  rw [← HW6.out]
  clear hW6 su6 su6' c6 f6 st5 far6 own6 ho6 xl6
  go_upto_region 10 with (go_at_call 88; refine (N7.out _ st6.rd).mono ?_; rintro e w7 ⟨rfl, h7⟩; have su7 := st6.callR h7; have c7 : w7.cell? ⟨X, 6, none⟩ = some (I64 0) := (by simpa using su7.x.cell 6); have f7 := su7.x.frozen 6)
  obtain ⟨W7, hW7⟩ : ∃ W, W = w7.setCell ⟨X, 6, none⟩ (I64 sc) := ⟨_, rfl⟩
  have st7 : RSt false w W7 F0 g X 60 (fun w => (fun w => Blk w D 60 zA) w ∧ Own w 93 3 Ar nr cr (rdgsCells rl)) zb #[I64 er, I64 a, I64 b, .bool is, .bool cm, .slice Ar nr cr, I64 sc, I64 0, .slice none 0 0] := by rw [hW7]; exact su7.set_ 6 (I64 sc)
  have HW7 := Lib.hid hW7
  rw [← HW7.out]
  clear hW7 su7 c7 f7 st6
  go_upto_region 11 with (go_at_call 88; refine (N8.out _ st7.rd).mono ?_; rintro e w8 ⟨rfl, h8⟩; have su8 := st7.callR h8; have c8 : w8.cell? ⟨X, 7, none⟩ = some (I64 0) := (by simpa using su8.x.cell 7); have f8 := su8.x.frozen 7)
  obtain ⟨W8, hW8⟩ : ∃ W, W = w8.setCell ⟨X, 7, none⟩ (I64 sg) := ⟨_, rfl⟩
  have st8 : RSt false w W8 F0 g X 60 (fun w => (fun w => Blk w D 60 zA) w ∧ Own w 93 3 Ar nr cr (rdgsCells rl)) s6 #[I64 er, I64 a, I64 b, .bool is, .bool cm, .slice Ar nr cr, I64 sc, I64 sg, .slice none 0 0] := by rw [hW8]; exact su8.set_ 7 (I64 sg)
  have HW8 := Lib.hid hW8
  rw [← HW8.out]
  clear hW8 su8 c8 f8 st7
  have xl9 := st8.x.lt
  go_upto_region 12 with (go_at_call 92; refine (N9.out _ st8.rd).mono ?_; rintro e w9 ⟨Ab, cb, rfl, ho9, h9, hA9⟩; have su9 := st8.callR h9; have c9 : w9.cell? ⟨X, 8, none⟩ = some (.slice none 0 0) := (by simpa using su9.x.cell 8); have f9 := su9.x.frozen 8)
  obtain ⟨W9, hW9⟩ : ∃ W, W = w9.setCell ⟨X, 8, none⟩ (.slice Ab nb cb) := ⟨_, rfl⟩
  have su9' : RSt false w W9 F0 g X 60 (fun w => (fun w => Blk w D 60 zA) w ∧ Own w 93 3 Ar nr cr (rdgsCells rl)) s7 #[I64 er, I64 a, I64 b, .bool is, .bool cm, .slice Ar nr cr, I64 sc, I64 sg, .slice Ab nb cb] := by rw [hW9]; exact su9.set_ 8 (.slice Ab nb cb)
  have far9 : ∀ k, inA Ab k → k ≠ g ∧ k ≠ X := fun k hk => ⟨fun e => by have := hA9 k hk; omega, fun e => by have := hA9 k hk; omega⟩
  have own9 : Own W9 5 1 Ab nb cb (bb.map B8) := by rw [hW9]; exact ho9.setCell (p := ⟨X, 8, none⟩) (fun hk => (far9 _ hk).2 rfl) _
  have new9 : ∀ k, inA Ab k → w.heap.size ≤ k := fun k hk => Nat.le_trans st8.fr.size (hA9 k hk)
  have nd9 : ∀ k, inA Ab k → k ≠ D := fun k hk => by have := hA9 k hk; omega
  have st9 := su9'.more (K' := fun w => Own w 5 1 Ab nb cb (bb.map B8)) own9 (stay_own far9)
  have HW9 := Lib.hid hW9
  rw [← HW9.out]
  clear hW9 su9 su9' c9 f9 st8 far9 own9 ho9 xl9
  have hx8 := st9.x
  have hd8 := st9.k.1.1
  have hr8 := st9.k.1.2
  have hb8 := st9.k.2
  have hfr8 : Nw w W9 := st9.fr.mono (fun k hk => .inr (by have := HD.out; omega))
  obtain ⟨x, hx⟩ : ∃ x : AnsF, x = ⟨er, (a, b), is, cm, rl, sc, sg, bb⟩ := ⟨_, rfl⟩
  obtain ⟨p, hp⟩ : ∃ p : Pl, p = ⟨none, 0, Ar, cr, Ab, cb⟩ := ⟨_, rfl⟩
  have hxa : afA x p = #[I64 er, I64 a, I64 b, .bool is, .bool cm, .slice Ar nr cr, I64 sc, I64 sg, .slice Ab nb cb] := by
    rw [hx, hp]
    show #[I64 er, I64 a, I64 b, .bool is, .bool cm, .slice Ar rl.length cr, I64 sc, I64 sg, .slice Ab bb.length cb] = _
    rw [HNR.out, HNB.out]
  have hG : r = if (decide (ed = 0) && ansOk x) = true then some x else none := by rw [hx]; exact HG.out
  have hsz8 : AnsSz x := by rw [hx]; exact ⟨⟨by show rl.length ≤ _; omega, z5.2⟩, by show bb.length ≤ _; omega⟩
  have hown : AnsOwn w W9 x p := by
    rw [hx, hp]
    refine ⟨?_, ?_, new6, new9⟩
    · show Own W9 93 3 Ar rl.length cr (rdgsCells rl)
      rw [HNR.out]; exact hr8
    · show Own W9 5 1 Ab bb.length cb (bb.map B8)
      rw [HNB.out]; exact hb8
  have hnd : ∀ k, (inA p.r k → k ≠ D) ∧ (inA p.b k → k ≠ D) := fun k => by rw [hp]; exact ⟨nd6 k, nd9 k⟩
  rw [← hxa] at hx8
  have HR := Lib.hid st9.rd
  have HGG := Lib.hid hG
  have hso := rsound_any W9 _ x p hown.in_ hsz8
  clear hG HG hx hp hxa hr8 hb8 st9 new6 new9 z5 z7 nd6 nd9 hA6 hA9
  have die : ∀ (V : World), Nw W9 V → r = none → XGetATo w r (.returned (.tuple #[.agg zA, .int .i64 4])) (V.setRow D zA) := fun V f h => by
    rw [h]
    exact ⟨(hfr8.tr f).new ((Fr.refl (· = D) V).setRow (.inl rfl) _) (fun k hk => by have := HD.out; have h1 : k = D := hk; omega), rfl⟩
  have DIE := Lib.hid die
  have hz1 : zA.all (·.oneCell') = true := af_one ansZ plZ
  clear die
  by_cases hed : ed = 0
  · subst hed
    cases hok : ansOk x with
    | true =>
      have e1 : r = some x := by rw [HGG.out, hok]; rfl
      rw [hok] at hso
      have E1 := Lib.hid e1
      clear hok e1
      go_upto_region 14 with (first | (go_at_call 93; refine (N10.out _ HR.out).mono ?_; rintro e w9 ⟨rfl, rfl⟩) | (refine wl_row_want (by rfl) 60 _ rfl X rfl 60 _ hx8 _ Tryz.underlying60 rfl rans_size ?_) | (go_at_call 34; refine hso.mono ?_; rintro e w10 ⟨rfl, q10⟩))
      have hx10 := hx8.fr q10 (fun h => h)
      have hd10 := hd8.fr q10 (fun h => h)
      go_wp2_with (first | (refine wpList_load_row rfl 60 _ rfl X rfl 60 _ (0, 0) _ hx10 Tryz.underlying60 rfl rans_size ?_) | (refine wpList_store_row rfl 60 _ _ rfl D _ rfl rfl 60 _ hd10 rans_size rfl (af_one x p) ?_))
      refine bodyPost_ret (v := .tuple #[.agg (afA x p), .int .i64 0]) ?_ rfl ?_
      · exact results_cell_tmp_row rfl _ _ D 60 _ (0, 0) _ _ rfl rfl (hd10.row _) Tryz.underlying60 rfl rans_size
      have qe : Fr (· = D) w10 (w10.setRow D (afA x p)) := (Fr.refl (· = D) w10).setRow (.inl rfl) _
      rw [E1.out]
      exact ⟨(hfr8.tr q10).new qe (fun k hk => by have := HD.out; have h1 : k = D := hk; omega), p, rfl, (hown.fr q10 (fun _ _ h => h) (fun _ _ h => h)).fr qe (fun k hk e => (hnd k).1 hk e) (fun k hk e => (hnd k).2 hk e)⟩
    | false =>
      have e1 : r = none := by rw [HGG.out, hok]; rfl
      rw [hok] at hso
      have E1 := Lib.hid e1
      clear hok e1
      go_wp2_with (first | (go_at_call 93; refine (N10.out _ HR.out).mono ?_; rintro e w9 ⟨rfl, rfl⟩) | (refine wl_row_want (by rfl) 60 _ rfl X rfl 60 _ hx8 _ Tryz.underlying60 rfl rans_size ?_) | (go_at_call 34; refine hso.mono ?_; rintro e w10 ⟨rfl, q10⟩; have hd10 := hd8.fr q10 (fun h => h)) | (refine wpList_store_row rfl 60 _ _ rfl D _ rfl rfl 60 _ hd10 rans_size rfl hz1 ?_))
      refine bodyPost_ret (v := .tuple #[.agg zA, .int .i64 4]) ?_ rfl (DIE.out _ q10 E1.out)
      exact results_cell_tmp_row rfl _ _ D 60 _ (0, 0) _ _ rfl rfl (hd10.row _) Tryz.underlying60 rfl rans_size
  · have e1 : r = none := by rw [HGG.out, decide_eq_false hed]; rfl
    have E1 := Lib.hid e1
    clear e1
    have hedb : (ed == 0) = false := beq_false_of_ne hed
    go_wp2_with (first | (go_at_call 93; refine (N10.out _ HR.out).mono ?_; rintro e w9 ⟨rfl, rfl⟩) | (refine wpList_store_row rfl 60 _ _ rfl D _ rfl rfl 60 _ hd8 rans_size rfl hz1 ?_))
    refine bodyPost_ret (v := .tuple #[.agg zA, .int .i64 4]) ?_ rfl (DIE.out _ (Fr.refl _ _) E1.out)
    exact results_cell_tmp_row rfl _ _ D 60 _ (0, 0) _ _ rfl rfl (hd8.row _) Tryz.underlying60 rfl rans_size
end Go.Proofs.YtkjnlhidnkbelaaGreatDoor
/- Orders read by the document. (Printed by genrl.py.) -/
namespace Go.Proofs.YtkjnlhidnkbelaaGreatDoor
open Go Go.RowKit
set_option linter.unusedVariables false
set_option linter.unusedSimpArgs false
def XGetOTo (w : World) (r : Option OrdF) (e : Ending) (w' : World) : Prop := Nw w w' ∧ match r with
  | none => e = .returned (.tuple #[.agg (zO (I64 0)), .int .i64 4])
  | some x => ∃ p, e = .returned (.tuple #[.agg (ofA (I64 x.kind) x p), .int .i64 0]) ∧ OrdOwn w w' x p
set_option maxRecDepth 100000 in
set_option maxHeartbeats 16000000 in
theorem xget_any (w : World) (F0 : Nat → Prop) (A : Option Addr) (c : Nat) (bs : List UInt8) (hs : Sl w F0 A (bs.map B8)) (hFl : ∀ k, F0 k → k < w.heap.size) (hc1 : bs.length ≤ c) (hc2 : c ≤ maxLen) (hsz : bs.length ≤ 1000000000) :
    Calls Tryz.prog 35 #[.slice A bs.length c] w fun e w' => XGetOTo w (ordGet bs) e w' := by
  have hgq : ordGet bs = if ((rdOrd (some bs)).1.2 && (decide (rdEnd (rdOrd (some bs)).2 = 0) && ordOk (rdOrd (some bs)).1.1)) = true then some (rdOrd (some bs)).1.1 else none := rfl
  obtain ⟨r, hr⟩ : ∃ r, ordGet bs = r := ⟨_, rfl⟩
  rw [hr] at hgq ⊢
  clear hr
  have L0 : rdLeft (some bs) ≤ 1000000000000 := by show bs.length ≤ _; omega
  obtain ⟨s0, hs0⟩ : ∃ s0, s0 = some bs := ⟨_, rfl⟩
  rw [← hs0] at hgq L0
  have hq : rdOrd s0 = ((⟨(rdNum 255 s0).1, ((rdNum 1073741824 (rdNum 255 s0).2).1, (rdNum 1073741824 (rdNum 1073741824 (rdNum 255 s0).2).2).1), (rdNum 1073741824 (rdNum 1073741824 (rdNum 1073741824 (rdNum 255 s0).2).2).2).1, (rdActsN (rdNum 1073741824 (rdNum 1073741824 (rdNum 1073741824 (rdNum 255 s0).2).2).2).2).1.1, (rdFlag (rdActsN (rdNum 1073741824 (rdNum 1073741824 (rdNum 1073741824 (rdNum 255 s0).2).2).2).2).2).1, (rdRdgsN (rdFlag (rdActsN (rdNum 1073741824 (rdNum 1073741824 (rdNum 1073741824 (rdNum 255 s0).2).2).2).2).2).2).1, (rdNum 1073741824 (rdRdgsN (rdFlag (rdActsN (rdNum 1073741824 (rdNum 1073741824 (rdNum 1073741824 (rdNum 255 s0).2).2).2).2).2).2).2).1, (rdNum 1073741824 (rdNum 1073741824 (rdRdgsN (rdFlag (rdActsN (rdNum 1073741824 (rdNum 1073741824 (rdNum 1073741824 (rdNum 255 s0).2).2).2).2).2).2).2).2).1, (rdNum 1073741824 (rdNum 1073741824 (rdNum 1073741824 (rdRdgsN (rdFlag (rdActsN (rdNum 1073741824 (rdNum 1073741824 (rdNum 1073741824 (rdNum 255 s0).2).2).2).2).2).2).2).2).2).1, (rdRow 20 (rdNum 1073741824 (rdNum 1073741824 (rdNum 1073741824 (rdRdgsN (rdFlag (rdActsN (rdNum 1073741824 (rdNum 1073741824 (rdNum 1073741824 (rdNum 255 s0).2).2).2).2).2).2).2).2).2).2).1, (rdRow 20 (rdRow 20 (rdNum 1073741824 (rdNum 1073741824 (rdNum 1073741824 (rdRdgsN (rdFlag (rdActsN (rdNum 1073741824 (rdNum 1073741824 (rdNum 1073741824 (rdNum 255 s0).2).2).2).2).2).2).2).2).2).2).2).1, (rdRow 65536 (rdRow 20 (rdRow 20 (rdNum 1073741824 (rdNum 1073741824 (rdNum 1073741824 (rdRdgsN (rdFlag (rdActsN (rdNum 1073741824 (rdNum 1073741824 (rdNum 1073741824 (rdNum 255 s0).2).2).2).2).2).2).2).2).2).2).2).2).1⟩, (rdActsN (rdNum 1073741824 (rdNum 1073741824 (rdNum 1073741824 (rdNum 255 s0).2).2).2).2).1.2), (rdRow 65536 (rdRow 20 (rdRow 20 (rdNum 1073741824 (rdNum 1073741824 (rdNum 1073741824 (rdRdgsN (rdFlag (rdActsN (rdNum 1073741824 (rdNum 1073741824 (rdNum 1073741824 (rdNum 255 s0).2).2).2).2).2).2).2).2).2).2).2).2).2) := rfl
  rw [hq] at hgq
  clear hq
  simp only at hgq
  have L1 := Nat.le_trans (rdNum_left 255 s0) L0
  have n1 := fun w1 g h1 => rrnumber_any w1 F0 g s0 h1 255 L0
  have z1_0 := rdNum_most 255 s0 (by omega)
  generalize rdNum 255 s0 = y at hgq L1 n1 z1_0
  obtain ⟨kd, s1⟩ := y
  simp only at hgq L1 n1 z1_0
  have L2 := Nat.le_trans (rdNum_left 1073741824 s1) L1
  have n2 := fun w1 g h1 => rrnumber_any w1 F0 g s1 h1 1073741824 L1
  generalize rdNum 1073741824 s1 = y at hgq L2 n2 
  obtain ⟨a, s2⟩ := y
  simp only at hgq L2 n2 
  have L3 := Nat.le_trans (rdNum_left 1073741824 s2) L2
  have n3 := fun w1 g h1 => rrnumber_any w1 F0 g s2 h1 1073741824 L2
  generalize rdNum 1073741824 s2 = y at hgq L3 n3 
  obtain ⟨b, s3⟩ := y
  simp only at hgq L3 n3 
  have L4 := Nat.le_trans (rdNum_left 1073741824 s3) L3
  have n4 := fun w1 g h1 => rrnumber_any w1 F0 g s3 h1 1073741824 L3
  generalize rdNum 1073741824 s3 = y at hgq L4 n4 
  obtain ⟨ep, s4⟩ := y
  simp only at hgq L4 n4 
  have L5 := Nat.le_trans (rdActsN_left s4) L4
  have n5 := fun w1 g h1 => xgacts_any w1 F0 g s4 h1 L4
  have z5_0 := rdActsN_sz s4
  generalize rdActsN s4 = y at hgq L5 n5 z5_0
  obtain ⟨⟨la, ok⟩, s5⟩ := y
  simp only at hgq L5 n5 z5_0
  have L6 := Nat.le_trans (rdFlag_left s5) L5
  have n6 := fun w1 g h1 => rrflag_any w1 F0 g s5 h1
  generalize rdFlag s5 = y at hgq L6 n6 
  obtain ⟨cm, s6⟩ := y
  simp only at hgq L6 n6 
  have L7 := Nat.le_trans (rdRdgsN_left s6) L6
  have n7 := fun w1 g h1 => xgreads_any w1 F0 g s6 h1 L6
  have z7_0 := rdRdgsN_sz s6
  generalize rdRdgsN s6 = y at hgq L7 n7 z7_0
  obtain ⟨rl, s7⟩ := y
  simp only at hgq L7 n7 z7_0
  have L8 := Nat.le_trans (rdNum_left 1073741824 s7) L7
  have n8 := fun w1 g h1 => rrnumber_any w1 F0 g s7 h1 1073741824 L7
  generalize rdNum 1073741824 s7 = y at hgq L8 n8 
  obtain ⟨sc, s8⟩ := y
  simp only at hgq L8 n8 
  have L9 := Nat.le_trans (rdNum_left 1073741824 s8) L8
  have n9 := fun w1 g h1 => rrnumber_any w1 F0 g s8 h1 1073741824 L8
  generalize rdNum 1073741824 s8 = y at hgq L9 n9 
  obtain ⟨sg, s9⟩ := y
  simp only at hgq L9 n9 
  have L10 := Nat.le_trans (rdNum_left 1073741824 s9) L9
  have n10 := fun w1 g h1 => rrnumber_any w1 F0 g s9 h1 1073741824 L9
  generalize rdNum 1073741824 s9 = y at hgq L10 n10 
  obtain ⟨to_, s10⟩ := y
  simp only at hgq L10 n10 
  have L11 := Nat.le_trans (rdRow_left 20 s10) L10
  have n11 := fun w1 g h1 => rrrow_any w1 F0 g s10 h1 20 L10
  have z11_0 := rdRow_len 20 (by omega) s10
  generalize rdRow 20 s10 = y at hgq L11 n11 z11_0
  obtain ⟨lo, s11⟩ := y
  simp only at hgq L11 n11 z11_0
  have L12 := Nat.le_trans (rdRow_left 20 s11) L11
  have n12 := fun w1 g h1 => rrrow_any w1 F0 g s11 h1 20 L11
  have z12_0 := rdRow_len 20 (by omega) s11
  generalize rdRow 20 s11 = y at hgq L12 n12 z12_0
  obtain ⟨hi, s12⟩ := y
  simp only at hgq L12 n12 z12_0
  have L13 := Nat.le_trans (rdRow_left 65536 s12) L12
  have n13 := fun w1 g h1 => rrrow_any w1 F0 g s12 h1 65536 L12
  have z13_0 := rdRow_len 65536 (by omega) s12
  generalize rdRow 65536 s12 = y at hgq L13 n13 z13_0
  obtain ⟨bb, s13⟩ := y
  simp only at hgq L13 n13 z13_0
  have n14 := fun w1 g h1 => rrend_any w1 F0 g s13 h1
  generalize rdEnd s13 = ed at hgq n14
  obtain ⟨na, hna⟩ : ∃ na, la.length = na := ⟨_, rfl⟩
  obtain ⟨nr, hnr⟩ : ∃ nr, rl.length = nr := ⟨_, rfl⟩
  obtain ⟨nb, hnb⟩ : ∃ nb, bb.length = nb := ⟨_, rfl⟩
  rw [hna] at n5
  rw [hnr] at n7
  rw [hnb] at n13
  obtain ⟨n0, hn0⟩ : ∃ n0, n0 = bs.length := ⟨_, rfl⟩
  obtain ⟨D, hD⟩ : ∃ D, D = w.heap.size := ⟨_, rfl⟩
  obtain ⟨g, hg⟩ : ∃ g, g = w.heap.size + 1 := ⟨_, rfl⟩
  obtain ⟨X, hX⟩ : ∃ X, X = w.heap.size + 1 + 1 := ⟨_, rfl⟩
  obtain ⟨W0, hW0⟩ : ∃ W0, W0 = ((w.alloc (.cells (zO (I64 0)) 55)).alloc (.cells #[.slice A n0 c, .bool false] 157)).alloc (.cells (zO (I64 0)) 55) := ⟨_, rfl⟩
  have q0 : Nw w W0 := by rw [hW0]; exact (((Fr.refl (fun _ => False) w).alloc _).alloc _).alloc _
  have hz0 : W0.heap.size = D + 3 := by rw [hW0, hD]; simp
  have d0 : Blk W0 D 55 (zO (I64 0)) := by rw [hW0, hD]; exact ((Blk.new w _ _).alloc _).alloc _
  have g0 : Blk W0 g 157 #[.slice A n0 c, .bool false] := by rw [hW0, hg]; exact (show Blk ((w.alloc (.cells (zO (I64 0)) 55)).alloc (.cells #[.slice A n0 c, .bool false] 157)) (w.heap.size + 1) _ _ by simpa using Blk.new (w.alloc (.cells (zO (I64 0)) 55)) 157 #[.slice A n0 c, .bool false]).alloc _
  have x0 : Blk W0 X 55 (zO (I64 0)) := by rw [hW0, hX]; simpa using Blk.new ((w.alloc (.cells (zO (I64 0)) 55)).alloc (.cells #[.slice A n0 c, .bool false] 157)) 55 (zO (I64 0))
  have r0 : IsRR W0 F0 g s0 := by
    rw [hs0]
    exact ⟨A, c, by rw [← hn0]; exact g0, hc1, hc2, hs.fr q0 (fun _ _ h => h), fun h => by have := hFl _ h; omega, fun k hk => by have := hFl _ hk; omega⟩
  have st0 : RSt false w W0 F0 g X 55 (fun w => Blk w D 55 (zO (I64 0))) s0 (zO (I64 0)) := ⟨r0, x0, d0, Nw.on q0, by omega, fun h => by have := hFl _ h; omega, by omega, stay_blk (by omega) (by omega)⟩
  have HG := Lib.hid hgq
  have HNA := Lib.hid hna
  have HNR := Lib.hid hnr
  have HNB := Lib.hid hnb
  have HD := Lib.hid hD
  have HW0 := Lib.hid hW0
  have HGG0 := Lib.hid hg
  have HX := Lib.hid hX
  have HN0 := Lib.hid hn0
  have hDX : D < g ∧ g < X := by omega
  have N1 := Lib.hid (fun w1 h1 => n1 w1 g h1)
  have N2 := Lib.hid (fun w1 h1 => n2 w1 g h1)
  have N3 := Lib.hid (fun w1 h1 => n3 w1 g h1)
  have N4 := Lib.hid (fun w1 h1 => n4 w1 g h1)
  have N5 := Lib.hid (fun w1 h1 => n5 w1 g h1)
  have N6 := Lib.hid (fun w1 h1 => n6 w1 g h1)
  have N7 := Lib.hid (fun w1 h1 => n7 w1 g h1)
  have N8 := Lib.hid (fun w1 h1 => n8 w1 g h1)
  have N9 := Lib.hid (fun w1 h1 => n9 w1 g h1)
  have N10 := Lib.hid (fun w1 h1 => n10 w1 g h1)
  have N11 := Lib.hid (fun w1 h1 => n11 w1 g h1)
  have N12 := Lib.hid (fun w1 h1 => n12 w1 g h1)
  have N13 := Lib.hid (fun w1 h1 => n13 w1 g h1)
  have N14 := Lib.hid (fun w1 h1 => n14 w1 g h1)
  clear hgq hna hnr hnb hD hW0 hg hX n1 n2 n3 n4 n5 n6 n7 n8 n9 n10 n11 n12 n13 n14 L0 L1 L2 L3 L4 L5 L6 L7 L8 L9 L10 L11 L12 L13 hs0 d0 g0 x0 r0
  rw [← HN0.out]
  clear hn0
  go_enter Tryz.func35, Tryz.ntmps35
  go_upto_region 3 with (fail)
  rw [← HW0.out, ← HX.out, ← HGG0.out, ← HD.out]
  go_upto_region 4 with (go_at_call 88; refine (N1.out _ st0.rd).mono ?_; rintro e w1 ⟨rfl, h1⟩; have su1 := st0.callR h1; have c1 : w1.cell? ⟨X, 0, none⟩ = some (I64 0) := (by simpa using su1.x.cell 0); have f1 := su1.x.frozen 0)
  obtain ⟨W1, hW1⟩ : ∃ W, W = w1.setCell ⟨X, 0, none⟩ (I64 kd) := ⟨_, rfl⟩
  have st1 : RSt false w W1 F0 g X 55 (fun w => Blk w D 55 (zO (I64 0))) s1 #[I64 kd, I64 0, I64 0, I64 0, .slice none 0 0, .bool false, .slice none 0 0, I64 0, I64 0, I64 0, .string ⟨#[]⟩, .string ⟨#[]⟩, .slice none 0 0] := by rw [hW1]; exact su1.set_ 0 (I64 kd)
  have HW1 := Lib.hid hW1
  rw [← HW1.out]
  clear hW1 su1 c1 f1 st0
  go_upto_region 5 with (go_at_call 88; refine (N2.out _ st1.rd).mono ?_; rintro e w2 ⟨rfl, h2⟩; have su2 := st1.callR h2; have c2 : w2.cell? ⟨X, 1, none⟩ = some (I64 0) := (by simpa using su2.x.cell 1); have f2 := su2.x.frozen 1)
  obtain ⟨W2, hW2⟩ : ∃ W, W = w2.setCell ⟨X, 1, none⟩ (I64 a) := ⟨_, rfl⟩
  have st2 : RSt false w W2 F0 g X 55 (fun w => Blk w D 55 (zO (I64 0))) s2 #[I64 kd, I64 a, I64 0, I64 0, .slice none 0 0, .bool false, .slice none 0 0, I64 0, I64 0, I64 0, .string ⟨#[]⟩, .string ⟨#[]⟩, .slice none 0 0] := by rw [hW2]; exact su2.set_ 1 (I64 a)
  have HW2 := Lib.hid hW2
  rw [← HW2.out]
  clear hW2 su2 c2 f2 st1
  go_upto_region 6 with (go_at_call 88; refine (N3.out _ st2.rd).mono ?_; rintro e w3 ⟨rfl, h3⟩; have su3 := st2.callR h3; have c3 : w3.cell? ⟨X, 2, none⟩ = some (I64 0) := (by simpa using su3.x.cell 2); have f3 := su3.x.frozen 2)
  obtain ⟨W3, hW3⟩ : ∃ W, W = w3.setCell ⟨X, 2, none⟩ (I64 b) := ⟨_, rfl⟩
  have st3 : RSt false w W3 F0 g X 55 (fun w => Blk w D 55 (zO (I64 0))) s3 #[I64 kd, I64 a, I64 b, I64 0, .slice none 0 0, .bool false, .slice none 0 0, I64 0, I64 0, I64 0, .string ⟨#[]⟩, .string ⟨#[]⟩, .slice none 0 0] := by rw [hW3]; exact su3.set_ 2 (I64 b)
  have HW3 := Lib.hid hW3
  rw [← HW3.out]
  clear hW3 su3 c3 f3 st2
  go_upto_region 7 with (go_at_call 88; refine (N4.out _ st3.rd).mono ?_; rintro e w4 ⟨rfl, h4⟩; have su4 := st3.callR h4; have c4 : w4.cell? ⟨X, 3, none⟩ = some (I64 0) := (by simpa using su4.x.cell 3); have f4 := su4.x.frozen 3)
  obtain ⟨W4, hW4⟩ : ∃ W, W = w4.setCell ⟨X, 3, none⟩ (I64 ep) := ⟨_, rfl⟩
  have st4 : RSt false w W4 F0 g X 55 (fun w => Blk w D 55 (zO (I64 0))) s4 #[I64 kd, I64 a, I64 b, I64 ep, .slice none 0 0, .bool false, .slice none 0 0, I64 0, I64 0, I64 0, .string ⟨#[]⟩, .string ⟨#[]⟩, .slice none 0 0] := by rw [hW4]; exact su4.set_ 3 (I64 ep)
  have HW4 := Lib.hid hW4
  rw [← HW4.out]
  clear hW4 su4 c4 f4 st3
  have xl5 := st4.x.lt
  go_upto_region 9 with (go_at_call 89; refine (N5.out _ st4.rd).mono ?_; rintro e w5 ⟨Aa, ca, rfl, ho5, h5, hA5⟩; have su5 := st4.callR h5; have c5 : w5.cell? ⟨X, 4, none⟩ = some (.slice none 0 0) := (by simpa using su5.x.cell 4); have f5 := su5.x.frozen 4)
  obtain ⟨W5, hW5⟩ : ∃ W, W = w5.setCell ⟨X, 4, none⟩ (.slice Aa na ca) := ⟨_, rfl⟩
  have su5' : RSt false w W5 F0 g X 55 (fun w => Blk w D 55 (zO (I64 0))) s5 #[I64 kd, I64 a, I64 b, I64 ep, .slice Aa na ca, .bool false, .slice none 0 0, I64 0, I64 0, I64 0, .string ⟨#[]⟩, .string ⟨#[]⟩, .slice none 0 0] := by rw [hW5]; exact su5.set_ 4 (.slice Aa na ca)
  have far5 : ∀ k, inA Aa k → k ≠ g ∧ k ≠ X := fun k hk => ⟨fun e => by have := hA5 k hk; omega, fun e => by have := hA5 k hk; omega⟩
  have own5 : Own W5 91 4 Aa na ca (actsCells la) := by rw [hW5]; exact ho5.setCell (p := ⟨X, 4, none⟩) (fun hk => (far5 _ hk).2 rfl) _
  have new5 : ∀ k, inA Aa k → w.heap.size ≤ k := fun k hk => Nat.le_trans st4.fr.size (hA5 k hk)
  have nd5 : ∀ k, inA Aa k → k ≠ D := fun k hk => by have := hA5 k hk; omega
  have st5 := su5'.more (K' := fun w => Own w 91 4 Aa na ca (actsCells la)) own5 (stay_own far5)
  have HW5 := Lib.hid hW5
  rw [← HW5.out]
  clear hW5 su5 su5' c5 f5 st4 far5 own5 ho5 xl5
  go_upto_region 10 with (go_at_call 90; refine (N6.out _ st5.rd).mono ?_; rintro e w6 ⟨rfl, h6⟩; have su6 := st5.callR h6; have c6 : w6.cell? ⟨X, 5, none⟩ = some (.bool false) := (by simpa using su6.x.cell 5); have f6 := su6.x.frozen 5)
  obtain ⟨W6, hW6⟩ : ∃ W, W = w6.setCell ⟨X, 5, none⟩ (.bool cm) := ⟨_, rfl⟩
  have st6 : RSt false w W6 F0 g X 55 (fun w => (fun w => Blk w D 55 (zO (I64 0))) w ∧ Own w 91 4 Aa na ca (actsCells la)) s6 #[I64 kd, I64 a, I64 b, I64 ep, .slice Aa na ca, .bool cm, .slice none 0 0, I64 0, I64 0, I64 0, .string ⟨#[]⟩, .string ⟨#[]⟩, .slice none 0 0] := by rw [hW6]; exact su6.set_ 5 (.bool cm)
  have HW6 := Lib.hid hW6
  rw [← HW6.out]
  clear hW6 su6 c6 f6 st5
  have xl7 := st6.x.lt
  go_upto_region 11 with (go_at_call 91; refine (N7.out _ st6.rd).mono ?_; rintro e w7 ⟨Ar, cr, rfl, ho7, h7, hA7⟩; have su7 := st6.callR h7; have c7 : w7.cell? ⟨X, 6, none⟩ = some (.slice none 0 0) := (by simpa using su7.x.cell 6); have f7 := su7.x.frozen 6)
  obtain ⟨W7, hW7⟩ : ∃ W, W = w7.setCell ⟨X, 6, none⟩ (.slice Ar nr cr) := ⟨_, rfl⟩
  have su7' : RSt false w W7 F0 g X 55 (fun w => (fun w => Blk w D 55 (zO (I64 0))) w ∧ Own w 91 4 Aa na ca (actsCells la)) s7 #[I64 kd, I64 a, I64 b, I64 ep, .slice Aa na ca, .bool cm, .slice Ar nr cr, I64 0, I64 0, I64 0, .string ⟨#[]⟩, .string ⟨#[]⟩, .slice none 0 0] := by rw [hW7]; exact su7.set_ 6 (.slice Ar nr cr)
  have far7 : ∀ k, inA Ar k → k ≠ g ∧ k ≠ X := fun k hk => ⟨fun e => by have := hA7 k hk; omega, fun e => by have := hA7 k hk; omega⟩
  have own7 : Own W7 93 3 Ar nr cr (rdgsCells rl) := by rw [hW7]; exact ho7.setCell (p := ⟨X, 6, none⟩) (fun hk => (far7 _ hk).2 rfl) _
  have new7 : ∀ k, inA Ar k → w.heap.size ≤ k := fun k hk => Nat.le_trans st6.fr.size (hA7 k hk)
  have nd7 : ∀ k, inA Ar k → k ≠ D := fun k hk => by have := hA7 k hk; omega
  have st7 := su7'.more (K' := fun w => Own w 93 3 Ar nr cr (rdgsCells rl)) own7 (stay_own far7)
  have HW7 := Lib.hid hW7
  rw [← HW7.out]
  clear hW7 su7 su7' c7 f7 st6 far7 own7 ho7 xl7
  go_upto_region 12 with (go_at_call 88; refine (N8.out _ st7.rd).mono ?_; rintro e w8 ⟨rfl, h8⟩; have su8 := st7.callR h8; have c8 : w8.cell? ⟨X, 7, none⟩ = some (I64 0) := (by simpa using su8.x.cell 7); have f8 := su8.x.frozen 7)
  obtain ⟨W8, hW8⟩ : ∃ W, W = w8.setCell ⟨X, 7, none⟩ (I64 sc) := ⟨_, rfl⟩
  have st8 : RSt false w W8 F0 g X 55 (fun w => (fun w => (fun w => Blk w D 55 (zO (I64 0))) w ∧ Own w 91 4 Aa na ca (actsCells la)) w ∧ Own w 93 3 Ar nr cr (rdgsCells rl)) s8 #[I64 kd, I64 a, I64 b, I64 ep, .slice Aa na ca, .bool cm, .slice Ar nr cr, I64 sc, I64 0, I64 0, .string ⟨#[]⟩, .string ⟨#[]⟩, .slice none 0 0] := by rw [hW8]; exact su8.set_ 7 (I64 sc)
  have HW8 := Lib.hid hW8
  rw [← HW8.out]
  clear hW8 su8 c8 f8 st7
  go_upto_region 13 with (go_at_call 88; refine (N9.out _ st8.rd).mono ?_; rintro e w9 ⟨rfl, h9⟩; have su9 := st8.callR h9; have c9 : w9.cell? ⟨X, 8, none⟩ = some (I64 0) := (by simpa using su9.x.cell 8); have f9 := su9.x.frozen 8)
  obtain ⟨W9, hW9⟩ : ∃ W, W = w9.setCell ⟨X, 8, none⟩ (I64 sg) := ⟨_, rfl⟩
  have st9 : RSt false w W9 F0 g X 55 (fun w => (fun w => (fun w => Blk w D 55 (zO (I64 0))) w ∧ Own w 91 4 Aa na ca (actsCells la)) w ∧ Own w 93 3 Ar nr cr (rdgsCells rl)) s9 #[I64 kd, I64 a, I64 b, I64 ep, .slice Aa na ca, .bool cm, .slice Ar nr cr, I64 sc, I64 sg, I64 0, .string ⟨#[]⟩, .string ⟨#[]⟩, .slice none 0 0] := by rw [hW9]; exact su9.set_ 8 (I64 sg)
  have HW9 := Lib.hid hW9
  rw [← HW9.out]
  clear hW9 su9 c9 f9 st8
  go_upto_region 14 with (go_at_call 88; refine (N10.out _ st9.rd).mono ?_; rintro e w10 ⟨rfl, h10⟩; have su10 := st9.callR h10; have c10 : w10.cell? ⟨X, 9, none⟩ = some (I64 0) := (by simpa using su10.x.cell 9); have f10 := su10.x.frozen 9)
  obtain ⟨W10, hW10⟩ : ∃ W, W = w10.setCell ⟨X, 9, none⟩ (I64 to_) := ⟨_, rfl⟩
  have st10 : RSt false w W10 F0 g X 55 (fun w => (fun w => (fun w => Blk w D 55 (zO (I64 0))) w ∧ Own w 91 4 Aa na ca (actsCells la)) w ∧ Own w 93 3 Ar nr cr (rdgsCells rl)) s10 #[I64 kd, I64 a, I64 b, I64 ep, .slice Aa na ca, .bool cm, .slice Ar nr cr, I64 sc, I64 sg, I64 to_, .string ⟨#[]⟩, .string ⟨#[]⟩, .slice none 0 0] := by rw [hW10]; exact su10.set_ 9 (I64 to_)
  have HW10 := Lib.hid hW10
  rw [← HW10.out]
  clear hW10 su10 c10 f10 st9
  go_upto_region 15 with (go_at_call 92; refine (N11.out _ st10.rd).mono ?_; rintro e w11 ⟨Bq11, dq11, rfl, obq11, h11, _⟩; have su11 := st10.callR h11; have c11 : w11.cell? ⟨X, 10, none⟩ = some (.string ⟨#[]⟩) := (by simpa using su11.x.cell 10); have f11 := su11.x.frozen 10; have hcv11 := run_text_sl w11 _ _ dq11 _ obq11.sl)
  obtain ⟨W11, hW11⟩ : ∃ W, W = w11.setCell ⟨X, 10, none⟩ (StrV lo) := ⟨_, rfl⟩
  have st11 : RSt false w W11 F0 g X 55 (fun w => (fun w => (fun w => Blk w D 55 (zO (I64 0))) w ∧ Own w 91 4 Aa na ca (actsCells la)) w ∧ Own w 93 3 Ar nr cr (rdgsCells rl)) s11 #[I64 kd, I64 a, I64 b, I64 ep, .slice Aa na ca, .bool cm, .slice Ar nr cr, I64 sc, I64 sg, I64 to_, StrV lo, .string ⟨#[]⟩, .slice none 0 0] := by rw [hW11]; exact su11.set_ 10 (StrV lo)
  have HW11 := Lib.hid hW11
  rw [← HW11.out]
  clear hW11 su11 c11 f11 st10
  clear hcv11
  go_upto_region 16 with (go_at_call 92; refine (N12.out _ st11.rd).mono ?_; rintro e w12 ⟨Bq12, dq12, rfl, obq12, h12, _⟩; have su12 := st11.callR h12; have c12 : w12.cell? ⟨X, 11, none⟩ = some (.string ⟨#[]⟩) := (by simpa using su12.x.cell 11); have f12 := su12.x.frozen 11; have hcv12 := run_text_sl w12 _ _ dq12 _ obq12.sl)
  obtain ⟨W12, hW12⟩ : ∃ W, W = w12.setCell ⟨X, 11, none⟩ (StrV hi) := ⟨_, rfl⟩
  have st12 : RSt false w W12 F0 g X 55 (fun w => (fun w => (fun w => Blk w D 55 (zO (I64 0))) w ∧ Own w 91 4 Aa na ca (actsCells la)) w ∧ Own w 93 3 Ar nr cr (rdgsCells rl)) s12 #[I64 kd, I64 a, I64 b, I64 ep, .slice Aa na ca, .bool cm, .slice Ar nr cr, I64 sc, I64 sg, I64 to_, StrV lo, StrV hi, .slice none 0 0] := by rw [hW12]; exact su12.set_ 11 (StrV hi)
  have HW12 := Lib.hid hW12
  rw [← HW12.out]
  clear hW12 su12 c12 f12 st11
  clear hcv12
  have xl13 := st12.x.lt
  go_upto_region 17 with (go_at_call 92; refine (N13.out _ st12.rd).mono ?_; rintro e w13 ⟨Ab, cb, rfl, ho13, h13, hA13⟩; have su13 := st12.callR h13; have c13 : w13.cell? ⟨X, 12, none⟩ = some (.slice none 0 0) := (by simpa using su13.x.cell 12); have f13 := su13.x.frozen 12)
  obtain ⟨W13, hW13⟩ : ∃ W, W = w13.setCell ⟨X, 12, none⟩ (.slice Ab nb cb) := ⟨_, rfl⟩
  have su13' : RSt false w W13 F0 g X 55 (fun w => (fun w => (fun w => Blk w D 55 (zO (I64 0))) w ∧ Own w 91 4 Aa na ca (actsCells la)) w ∧ Own w 93 3 Ar nr cr (rdgsCells rl)) s13 #[I64 kd, I64 a, I64 b, I64 ep, .slice Aa na ca, .bool cm, .slice Ar nr cr, I64 sc, I64 sg, I64 to_, StrV lo, StrV hi, .slice Ab nb cb] := by rw [hW13]; exact su13.set_ 12 (.slice Ab nb cb)
  have far13 : ∀ k, inA Ab k → k ≠ g ∧ k ≠ X := fun k hk => ⟨fun e => by have := hA13 k hk; omega, fun e => by have := hA13 k hk; omega⟩
  have own13 : Own W13 5 1 Ab nb cb (bb.map B8) := by rw [hW13]; exact ho13.setCell (p := ⟨X, 12, none⟩) (fun hk => (far13 _ hk).2 rfl) _
  have new13 : ∀ k, inA Ab k → w.heap.size ≤ k := fun k hk => Nat.le_trans st12.fr.size (hA13 k hk)
  have nd13 : ∀ k, inA Ab k → k ≠ D := fun k hk => by have := hA13 k hk; omega
  have st13 := su13'.more (K' := fun w => Own w 5 1 Ab nb cb (bb.map B8)) own13 (stay_own far13)
  have HW13 := Lib.hid hW13
  rw [← HW13.out]
  clear hW13 su13 su13' c13 f13 st12 far13 own13 ho13 xl13
  have hx8 := st13.x
  have hd8 := st13.k.1.1.1
  have ha8 := st13.k.1.1.2
  have hr8 := st13.k.1.2
  have hb8 := st13.k.2
  have hfr8 : Nw w W13 := st13.fr.mono (fun k hk => .inr (by have := HD.out; omega))
  obtain ⟨x, hx⟩ : ∃ x : OrdF, x = ⟨kd, (a, b), ep, la, cm, rl, sc, sg, to_, lo, hi, bb⟩ := ⟨_, rfl⟩
  obtain ⟨p, hp⟩ : ∃ p : Pl, p = ⟨Aa, ca, Ar, cr, Ab, cb⟩ := ⟨_, rfl⟩
  have hxa : ofA (I64 x.kind) x p = #[I64 kd, I64 a, I64 b, I64 ep, .slice Aa na ca, .bool cm, .slice Ar nr cr, I64 sc, I64 sg, I64 to_, StrV lo, StrV hi, .slice Ab nb cb] := by
    rw [hx, hp]
    show #[I64 kd, I64 a, I64 b, I64 ep, .slice Aa la.length ca, .bool cm, .slice Ar rl.length cr, I64 sc, I64 sg, I64 to_, StrV lo, StrV hi, .slice Ab bb.length cb] = _
    rw [HNA.out, HNR.out, HNB.out]
  have hG : r = if (ok && (decide (ed = 0) && ordOk x)) = true then some x else none := by rw [hx]; exact HG.out
  have hsz8 : OrdSz x := by rw [hx]; exact ⟨z1_0, ⟨by show la.length ≤ _; omega, z5_0.2⟩, ⟨by show rl.length ≤ _; omega, z7_0.2⟩, by show bb.length ≤ _; omega, by show lo.length ≤ _; omega, by show hi.length ≤ _; omega⟩
  have hown : OrdOwn w W13 x p := by
    rw [hx, hp]
    refine ⟨?_, ?_, ?_, new5, new7, new13⟩
    · show Own W13 91 4 Aa la.length ca (actsCells la)
      rw [HNA.out]; exact ha8
    · show Own W13 93 3 Ar rl.length cr (rdgsCells rl)
      rw [HNR.out]; exact hr8
    · show Own W13 5 1 Ab bb.length cb (bb.map B8)
      rw [HNB.out]; exact hb8
  have hnd : ∀ k, (inA p.a k → k ≠ D) ∧ (inA p.r k → k ≠ D) ∧ (inA p.b k → k ≠ D) := fun k => by rw [hp]; exact ⟨nd5 k, nd7 k, nd13 k⟩
  rw [← hxa] at hx8
  have HR := Lib.hid st13.rd
  have HGG := Lib.hid hG
  have hso := rright22_any W13 _ x p hown.in_ hsz8
  have hone := of_one (I64 x.kind) rfl x p
  clear hG HG hx hp hxa ha8 hr8 hb8 st13 new5 new7 new13 z1_0 z5_0 z7_0 z11_0 z12_0 z13_0 nd5 nd7 nd13 hA5 hA7 hA13
  have die : ∀ (V : World), Nw W13 V → r = none → XGetOTo w r (.returned (.tuple #[.agg (zO (I64 0)), .int .i64 4])) (V.setRow D (zO (I64 0))) := fun V f h => by
    rw [h]
    exact ⟨(hfr8.tr f).new ((Fr.refl (· = D) V).setRow (.inl rfl) _) (fun k hk => by have := HD.out; have h1 : k = D := hk; omega), rfl⟩
  have DIE := Lib.hid die
  have hz1 : (zO (I64 0)).all (·.oneCell') = true := of_one (I64 0) rfl (ordZ 0) plZ
  clear die
  cases ok with
  | false =>
    have e1 : r = none := by rw [HGG.out]; rfl
    have E1 := Lib.hid e1
    clear e1
    go_wp2_with (first | (refine wpList_store_row rfl 55 _ _ rfl D _ rfl rfl 55 _ hd8 rord_size rfl hz1 ?_))
    refine bodyPost_ret (v := .tuple #[.agg (zO (I64 0)), .int .i64 4]) ?_ rfl (DIE.out _ (Fr.refl _ _) E1.out)
    exact results_cell_tmp_row rfl _ _ D 55 _ (0, 0) _ _ rfl rfl (hd8.row _) Tryz.underlying55 rfl rord_size
  | true =>
    by_cases hed : ed = 0
    · subst hed
      cases hok : ordOk x with
      | true =>
        have e1 : r = some x := by rw [HGG.out, hok]; rfl
        rw [hok] at hso
        have E1 := Lib.hid e1
        clear hok e1
        go_upto_region 19 with (first | (go_at_call 93; refine (N14.out _ HR.out).mono ?_; rintro e w9 ⟨rfl, rfl⟩) | (refine wl_row_want (by rfl) 55 _ rfl X rfl 55 _ hx8 _ Tryz.underlying55 rfl rord_size ?_) | (go_at_call 28; refine hso.mono ?_; rintro e w10 ⟨rfl, q10⟩))
        have hx10 := hx8.fr q10 (fun h => h)
        have hd10 := hd8.fr q10 (fun h => h)
        go_wp2_with (first | (refine wpList_load_row rfl 55 _ rfl X rfl 55 _ (0, 0) _ hx10 Tryz.underlying55 rfl rord_size ?_) | (refine wpList_store_row rfl 55 _ _ rfl D _ rfl rfl 55 _ hd10 rord_size rfl hone ?_))
        refine bodyPost_ret (v := .tuple #[.agg (ofA (I64 x.kind) x p), .int .i64 0]) ?_ rfl ?_
        · exact results_cell_tmp_row rfl _ _ D 55 _ (0, 0) _ _ rfl rfl (hd10.row _) Tryz.underlying55 rfl rord_size
        have qe : Fr (· = D) w10 (w10.setRow D (ofA (I64 x.kind) x p)) := (Fr.refl (· = D) w10).setRow (.inl rfl) _
        rw [E1.out]
        exact ⟨(hfr8.tr q10).new qe (fun k hk => by have := HD.out; have h1 : k = D := hk; omega), p, rfl, (hown.fr q10 (fun _ _ h => h) (fun _ _ h => h) (fun _ _ h => h)).fr qe (fun k hk e => (hnd k).1 hk e) (fun k hk e => (hnd k).2.1 hk e) (fun k hk e => (hnd k).2.2 hk e)⟩
      | false =>
        have e1 : r = none := by rw [HGG.out, hok]; rfl
        rw [hok] at hso
        have E1 := Lib.hid e1
        clear hok e1
        go_wp2_with (first | (go_at_call 93; refine (N14.out _ HR.out).mono ?_; rintro e w9 ⟨rfl, rfl⟩) | (refine wl_row_want (by rfl) 55 _ rfl X rfl 55 _ hx8 _ Tryz.underlying55 rfl rord_size ?_) | (go_at_call 28; refine hso.mono ?_; rintro e w10 ⟨rfl, q10⟩; have hd10 := hd8.fr q10 (fun h => h)) | (refine wpList_store_row rfl 55 _ _ rfl D _ rfl rfl 55 _ hd10 rord_size rfl hz1 ?_))
        refine bodyPost_ret (v := .tuple #[.agg (zO (I64 0)), .int .i64 4]) ?_ rfl (DIE.out _ q10 E1.out)
        exact results_cell_tmp_row rfl _ _ D 55 _ (0, 0) _ _ rfl rfl (hd10.row _) Tryz.underlying55 rfl rord_size
    · have e1 : r = none := by rw [HGG.out, decide_eq_false hed]; rfl
      have E1 := Lib.hid e1
      clear e1
      have hedb : (ed == 0) = false := beq_false_of_ne hed
      go_wp2_with (first | (go_at_call 93; refine (N14.out _ HR.out).mono ?_; rintro e w9 ⟨rfl, rfl⟩) | (refine wpList_store_row rfl 55 _ _ rfl D _ rfl rfl 55 _ hd8 rord_size rfl hz1 ?_))
      refine bodyPost_ret (v := .tuple #[.agg (zO (I64 0)), .int .i64 4]) ?_ rfl (DIE.out _ (Fr.refl _ _) E1.out)
      exact results_cell_tmp_row rfl _ _ D 55 _ (0, 0) _ _ rfl rfl (hd8.row _) Tryz.underlying55 rfl rord_size
end Go.Proofs.YtkjnlhidnkbelaaGreatDoor
