/- Lemmas of the walks: NeB. (Laid together by shake.py.) -/
import Derived.Test.YtippdjaakcgeoaaGreatNe26
set_option linter.unusedVariables false
set_option linter.unusedSimpArgs false
namespace Go.Proofs.YtippdjaakcgeoaaGreat
open Go Go.RowKit
set_option linter.unusedVariables false
set_option linter.unusedSimpArgs false

def ixR (w : World) (n : Nat) (i : Value) (wr : World) : Prop := ∃ k : Nat, k ≤ n ∧ i = .int .i64 (k : Nat) ∧ Nw w wr
def kdR (w : World) (i : Value) (wr : World) : Prop := ∃ k : Nat, k ≤ 9 ∧ 4 ≤ k ∧ i = .int .i64 (k : Nat) ∧ Nw w wr
set_option maxRecDepth 100000 in
set_option maxHeartbeats 16000000 in
theorem ends25_walk (W : World) : Calls Tryz.prog 4 #[] W fun e w' => e = .returned (.bool true) ∧ Nw W w' := by
  obtain ⟨O, hO⟩ : ∃ O, O = W.heap.size := ⟨_, rfl⟩
  obtain ⟨W1, hW1⟩ : ∃ W1, W1 = W.alloc (.cells #[I64 (-1), I64 0, I64 1, I64 2, I64 5, I64 6] 3) := ⟨_, rfl⟩
  have q1 : Nw W W1 := by rw [hW1]; exact (Fr.refl (fun _ => False) _).alloc _
  have yO : Blk W1 O 3 #[I64 (-1), I64 0, I64 1, I64 2, I64 5, I64 6] := by rw [hW1, hO]; exact Blk.new _ _ _
  have hodd : ∀ w9, Nw W1 w9 → ∀ j, j < 6 → w9.cell? ⟨O, j, none⟩ = some (I64 (odds6.getD j 0)) := fun w9 q9 j hj => ((yO.fr q9 (fun h => h)).cell j).trans (odds6_at j hj)
  have HO := Lib.hid hO
  have HW1 := Lib.hid hW1
  have HODD := Lib.hid hodd
  clear hO hW1 hodd
  go_enter Tryz.func4, Tryz.ntmps4
  go_upto_region 2 with (fail)
  rw [← HO.out, ← HW1.out]
  go_wp2_with fail
  go_loopw [2] (fun i wr => ixR W1 6 i wr) (fun i _ => 6 - (intOf i).toNat)
  case atStart => exact ⟨0, by omega, rfl, Fr.refl _ _⟩
  case round =>
    obtain ⟨i, hi, rfl, hq⟩ := hrel
    obtain ⟨w0, hw0⟩ : ∃ w0, w0 = wr := ⟨_, rfl⟩
    rw [← hw0] at hq ⊢
    clear hw0
    by_cases hlt : i < 6
    · have hi0 : (i : Int) < 6 := by omega
      go_wp2_with fail
      go_loopw [3] (fun i wr => ixR W1 6 i wr) (fun i _ => 6 - (intOf i).toNat)
      case atStart => exact ⟨0, by omega, rfl, hq⟩
      case round =>
        clear hq
        obtain ⟨k, hk, rfl, hq⟩ := hrel
        obtain ⟨w0, hw0⟩ : ∃ w0, w0 = wr := ⟨_, rfl⟩
        rw [← hw0] at hq ⊢
        clear hw0
        by_cases hlt2 : k < 6
        · have hj0 : (k : Int) < 6 := by omega
          obtain ⟨a, ha⟩ : ∃ a, a = odds6.getD i 0 := ⟨_, rfl⟩
          obtain ⟨b, hb⟩ : ∃ b, b = odds6.getD k 0 := ⟨_, rfl⟩
          have hab : (-1 ≤ a ∧ a ≤ 6) ∧ (-1 ≤ b ∧ b ≤ 6) := by rw [ha, hb]; exact ⟨odds6_in i, odds6_in k⟩
          have ko : ∀ w9, Nw w0 w9 → w9.cell? ⟨O, i, none⟩ = some (I64 a) ∧ w9.cell? ⟨O, k, none⟩ = some (I64 b) := fun w9 q9 => by
            rw [ha, hb]
            exact ⟨HODD.out w9 (hq.tr q9) i hlt, HODD.out w9 (hq.tr q9) k hlt2⟩
          have KO0 := Lib.hid ko
          clear ha hb ko
          have hto := to_any w0 (i : Nat)
          obtain ⟨x, hx⟩ : ∃ x, x = toM (i : Nat) := ⟨_, rfl⟩
          rw [← hx] at hto
          have HX := Lib.hid hx
          clear hx
          go_upto_region 9 with (first | (go_at_call 18; refine hto.mono ?_; rintro e w1 ⟨rfl, q1b⟩; obtain ⟨X, hD⟩ : ∃ D, D = w1.heap.size := ⟨_, rfl⟩; obtain ⟨T0, hV0⟩ : ∃ V, V = w1.alloc (.cells #[U8V 0, I64 0, I64 0, I64 0, I64 0, I64 0, I64 0, I64 0, .bool false, .slice none 0 0, I64 0, I64 0, .slice none 0 0, .slice none 0 0, .slice none 0 0, .slice none 0 0, I64 0, I64 0, I64 0, .slice none 0 0] 50) := ⟨_, rfl⟩; have q0 : Nw w1 T0 := (by rw [hV0]; exact (Fr.refl (fun _ => False) _).alloc _); have y0 : Blk T0 X 50 #[U8V 0, I64 0, I64 0, I64 0, I64 0, I64 0, I64 0, I64 0, .bool false, .slice none 0 0, I64 0, I64 0, .slice none 0 0, .slice none 0 0, .slice none 0 0, .slice none 0 0, I64 0, I64 0, I64 0, .slice none 0 0] := (by rw [hV0, hD]; exact Blk.new _ _ _); have th := Blk.there (l := [U8V 0, I64 0, I64 0, I64 0, I64 0, I64 0, I64 0, I64 0, .bool false, .slice none 0 0, I64 0, I64 0, .slice none 0 0, .slice none 0 0, .slice none 0 0, .slice none 0 0, I64 0, I64 0, I64 0, .slice none 0 0]) y0 0 20 (by show 0 + 20 ≤ 20; omega); have one := letA_one x; obtain ⟨T1, hV1⟩ : ∃ V, V = T0.setCells X 0 [U8V x.kind, I64 x.group, I64 x.src, I64 x.dst, I64 x.term, I64 x.index, I64 x.logt, I64 x.commit, .bool x.ok, .slice x.ents.a x.ents.l.length x.ents.c, I64 x.base.index, I64 x.base.term, .slice x.base.cfg.v.a x.base.cfg.v.l.length x.base.cfg.v.c, .slice x.base.cfg.o.a x.base.cfg.o.l.length x.base.cfg.o.c, .slice x.base.cfg.l.a x.base.cfg.l.l.length x.base.cfg.l.c, .slice x.base.cfg.w.a x.base.cfg.w.l.length x.base.cfg.w.c, I64 x.size, I64 x.at_, I64 x.tag, .slice x.bytes.a x.bytes.l.length x.bytes.c] := ⟨_, rfl⟩; have yT1 : Blk T1 X 50 #[U8V x.kind, I64 x.group, I64 x.src, I64 x.dst, I64 x.term, I64 x.index, I64 x.logt, I64 x.commit, .bool x.ok, .slice x.ents.a x.ents.l.length x.ents.c, I64 x.base.index, I64 x.base.term, .slice x.base.cfg.v.a x.base.cfg.v.l.length x.base.cfg.v.c, .slice x.base.cfg.o.a x.base.cfg.o.l.length x.base.cfg.o.c, .slice x.base.cfg.l.a x.base.cfg.l.l.length x.base.cfg.l.c, .slice x.base.cfg.w.a x.base.cfg.w.l.length x.base.cfg.w.c, I64 x.size, I64 x.at_, I64 x.tag, .slice x.bytes.a x.bytes.l.length x.bytes.c] := (by rw [hV1]; exact Blk.setCells (l := [U8V 0, I64 0, I64 0, I64 0, I64 0, I64 0, I64 0, I64 0, .bool false, .slice none 0 0, I64 0, I64 0, .slice none 0 0, .slice none 0 0, .slice none 0 0, .slice none 0 0, I64 0, I64 0, I64 0, .slice none 0 0]) y0 0 [U8V x.kind, I64 x.group, I64 x.src, I64 x.dst, I64 x.term, I64 x.index, I64 x.logt, I64 x.commit, .bool x.ok, .slice x.ents.a x.ents.l.length x.ents.c, I64 x.base.index, I64 x.base.term, .slice x.base.cfg.v.a x.base.cfg.v.l.length x.base.cfg.v.c, .slice x.base.cfg.o.a x.base.cfg.o.l.length x.base.cfg.o.c, .slice x.base.cfg.l.a x.base.cfg.l.l.length x.base.cfg.l.c, .slice x.base.cfg.w.a x.base.cfg.w.l.length x.base.cfg.w.c, I64 x.size, I64 x.at_, I64 x.tag, .slice x.bytes.a x.bytes.l.length x.bytes.c]); have m1 : Fr (· = X) T0 T1 := (by rw [hV1]; exact (Fr.refl (· = X) _).setCells _ _); have qT1 : Nw w1 T1 := q0.new m1 (fun b hb => by omega); have HDT1 := Lib.hid hD; have HV0T1 := Lib.hid hV0; have HV1T1 := Lib.hid hV1; clear hD hV0 hV1 m1 q0 y0) | (rw [← HV0T1.out, ← HDT1.out]; refine wpList_store_mid rfl 50 _ _ rfl X 0 #[U8V x.kind, I64 x.group, I64 x.src, I64 x.dst, I64 x.term, I64 x.index, I64 x.logt, I64 x.commit, .bool x.ok, .slice x.ents.a x.ents.l.length x.ents.c, I64 x.base.index, I64 x.base.term, .slice x.base.cfg.v.a x.base.cfg.v.l.length x.base.cfg.v.c, .slice x.base.cfg.o.a x.base.cfg.o.l.length x.base.cfg.o.c, .slice x.base.cfg.l.a x.base.cfg.l.l.length x.base.cfg.l.c, .slice x.base.cfg.w.a x.base.cfg.w.l.length x.base.cfg.w.c, I64 x.size, I64 x.at_, I64 x.tag, .slice x.bytes.a x.bytes.l.length x.bytes.c] rfl rfl th (by kernel_rfl) one ?_; rw [← HV1T1.out]))
          have c2 : T1.cell? ⟨X, 2, none⟩ = some (I64 x.src) := by simpa using yT1.cell 2
          have f2 := yT1.frozen 2
          obtain ⟨k1, k2⟩ := KO0.out T1 (q1b.tr qT1)
          have yT2 := yT1.set_ 2 (I64 a)
          obtain ⟨T2, hT2⟩ : ∃ T, T = T1.setCell ⟨X, 2, none⟩ (I64 a) := ⟨_, rfl⟩
          have m2 : Fr (· = X) T1 T2 := by rw [hT2]; exact (Fr.refl (· = X) T1).set1 2 _
          rw [← hT2] at yT2
          have HT2 := Lib.hid hT2
          have qT2 : Nw w1 T2 := qT1.new m2 (fun b hb => by have := HDT1.out; omega)
          clear hT2
          go_upto_region 10 with (fail)
          rw [← HT2.out]
          have c3 : T2.cell? ⟨X, 3, none⟩ = some (I64 x.dst) := by simpa using yT2.cell 3
          have f3 := yT2.frozen 3
          obtain ⟨k1b, k2b⟩ := KO0.out T2 (q1b.tr qT2)
          have yT3 := yT2.set_ 3 (I64 b)
          obtain ⟨T3, hT3⟩ : ∃ T, T = T2.setCell ⟨X, 3, none⟩ (I64 b) := ⟨_, rfl⟩
          have m3 : Fr (· = X) T2 T3 := by rw [hT3]; exact (Fr.refl (· = X) T2).set1 3 _
          rw [← hT3] at yT3
          have HT3 := Lib.hid hT3
          have qT3 : Nw w0 T3 := q1b.tr (qT2.new m3 (fun b hb => by have := HDT1.out; omega))
          have yX3 : Blk T3 X 50 (letA (xM i a b)) := by
            have e9 : letA (xM i a b) = letA { x with src := a, dst := b } := by rw [HX.out]; rfl
            rw [e9]
            exact yT3
          clear yT3 yT2 yT1 m2 m3 hT3 qT1 qT2 q1b
          go_upto_region 11 with (fail)
          rw [← HT3.out]
          clear c2 f2 c3 f3 k1 k2 k1b k2b
          have hto9 := to_any T3 9
          obtain ⟨y, hy⟩ : ∃ y, y = toM 9 := ⟨_, rfl⟩
          rw [← hy] at hto9
          have HY := Lib.hid hy
          clear hy th one
          go_upto_region 12 with (first | (go_at_call 18; refine hto9.mono ?_; rintro e w2 ⟨rfl, q2b⟩; obtain ⟨Y, hD⟩ : ∃ D, D = w2.heap.size := ⟨_, rfl⟩; obtain ⟨U0, hV0⟩ : ∃ V, V = w2.alloc (.cells #[U8V 0, I64 0, I64 0, I64 0, I64 0, I64 0, I64 0, I64 0, .bool false, .slice none 0 0, I64 0, I64 0, .slice none 0 0, .slice none 0 0, .slice none 0 0, .slice none 0 0, I64 0, I64 0, I64 0, .slice none 0 0] 50) := ⟨_, rfl⟩; have q0 : Nw w2 U0 := (by rw [hV0]; exact (Fr.refl (fun _ => False) _).alloc _); have y0 : Blk U0 Y 50 #[U8V 0, I64 0, I64 0, I64 0, I64 0, I64 0, I64 0, I64 0, .bool false, .slice none 0 0, I64 0, I64 0, .slice none 0 0, .slice none 0 0, .slice none 0 0, .slice none 0 0, I64 0, I64 0, I64 0, .slice none 0 0] := (by rw [hV0, hD]; exact Blk.new _ _ _); have th := Blk.there (l := [U8V 0, I64 0, I64 0, I64 0, I64 0, I64 0, I64 0, I64 0, .bool false, .slice none 0 0, I64 0, I64 0, .slice none 0 0, .slice none 0 0, .slice none 0 0, .slice none 0 0, I64 0, I64 0, I64 0, .slice none 0 0]) y0 0 20 (by show 0 + 20 ≤ 20; omega); have one := letA_one y; obtain ⟨U1, hV1⟩ : ∃ V, V = U0.setCells Y 0 [U8V y.kind, I64 y.group, I64 y.src, I64 y.dst, I64 y.term, I64 y.index, I64 y.logt, I64 y.commit, .bool y.ok, .slice y.ents.a y.ents.l.length y.ents.c, I64 y.base.index, I64 y.base.term, .slice y.base.cfg.v.a y.base.cfg.v.l.length y.base.cfg.v.c, .slice y.base.cfg.o.a y.base.cfg.o.l.length y.base.cfg.o.c, .slice y.base.cfg.l.a y.base.cfg.l.l.length y.base.cfg.l.c, .slice y.base.cfg.w.a y.base.cfg.w.l.length y.base.cfg.w.c, I64 y.size, I64 y.at_, I64 y.tag, .slice y.bytes.a y.bytes.l.length y.bytes.c] := ⟨_, rfl⟩; have yU1 : Blk U1 Y 50 #[U8V y.kind, I64 y.group, I64 y.src, I64 y.dst, I64 y.term, I64 y.index, I64 y.logt, I64 y.commit, .bool y.ok, .slice y.ents.a y.ents.l.length y.ents.c, I64 y.base.index, I64 y.base.term, .slice y.base.cfg.v.a y.base.cfg.v.l.length y.base.cfg.v.c, .slice y.base.cfg.o.a y.base.cfg.o.l.length y.base.cfg.o.c, .slice y.base.cfg.l.a y.base.cfg.l.l.length y.base.cfg.l.c, .slice y.base.cfg.w.a y.base.cfg.w.l.length y.base.cfg.w.c, I64 y.size, I64 y.at_, I64 y.tag, .slice y.bytes.a y.bytes.l.length y.bytes.c] := (by rw [hV1]; exact Blk.setCells (l := [U8V 0, I64 0, I64 0, I64 0, I64 0, I64 0, I64 0, I64 0, .bool false, .slice none 0 0, I64 0, I64 0, .slice none 0 0, .slice none 0 0, .slice none 0 0, .slice none 0 0, I64 0, I64 0, I64 0, .slice none 0 0]) y0 0 [U8V y.kind, I64 y.group, I64 y.src, I64 y.dst, I64 y.term, I64 y.index, I64 y.logt, I64 y.commit, .bool y.ok, .slice y.ents.a y.ents.l.length y.ents.c, I64 y.base.index, I64 y.base.term, .slice y.base.cfg.v.a y.base.cfg.v.l.length y.base.cfg.v.c, .slice y.base.cfg.o.a y.base.cfg.o.l.length y.base.cfg.o.c, .slice y.base.cfg.l.a y.base.cfg.l.l.length y.base.cfg.l.c, .slice y.base.cfg.w.a y.base.cfg.w.l.length y.base.cfg.w.c, I64 y.size, I64 y.at_, I64 y.tag, .slice y.bytes.a y.bytes.l.length y.bytes.c]); have m1 : Fr (· = Y) U0 U1 := (by rw [hV1]; exact (Fr.refl (· = Y) _).setCells _ _); have qU1 : Nw w2 U1 := q0.new m1 (fun b hb => by omega); have HDU1 := Lib.hid hD; have HV0U1 := Lib.hid hV0; have HV1U1 := Lib.hid hV1; clear hD hV0 hV1 m1 q0 y0) | (rw [← HV0U1.out, ← HDU1.out]; refine wpList_store_mid rfl 50 _ _ rfl Y 0 #[U8V y.kind, I64 y.group, I64 y.src, I64 y.dst, I64 y.term, I64 y.index, I64 y.logt, I64 y.commit, .bool y.ok, .slice y.ents.a y.ents.l.length y.ents.c, I64 y.base.index, I64 y.base.term, .slice y.base.cfg.v.a y.base.cfg.v.l.length y.base.cfg.v.c, .slice y.base.cfg.o.a y.base.cfg.o.l.length y.base.cfg.o.c, .slice y.base.cfg.l.a y.base.cfg.l.l.length y.base.cfg.l.c, .slice y.base.cfg.w.a y.base.cfg.w.l.length y.base.cfg.w.c, I64 y.size, I64 y.at_, I64 y.tag, .slice y.bytes.a y.bytes.l.length y.bytes.c] rfl rfl th (by kernel_rfl) one ?_; rw [← HV1U1.out]))
          have c0 : U1.cell? ⟨Y, 0, none⟩ = some (U8V y.kind) := by simpa using yU1.cell 0
          have f0 := yU1.frozen 0
          have yU2 := yU1.set_ 0 (U8V 0)
          obtain ⟨V9, hV9⟩ : ∃ T, T = U1.setCell ⟨Y, 0, none⟩ (U8V 0) := ⟨_, rfl⟩
          have m9 : Fr (· = Y) U1 V9 := by rw [hV9]; exact (Fr.refl (· = Y) U1).set1 0 _
          rw [← hV9] at yU2
          have HV9 := Lib.hid hV9
          have qV9 : Nw T3 V9 := q2b.tr (qU1.new m9 (fun b hb => by have := HDU1.out; omega))
          have yY : Blk V9 Y 50 (letA yM) := by
            have e9 : letA yM = letA { y with kind := 0 } := by rw [HY.out]; rfl
            rw [e9]
            exact yU2
          have yX := yX3.fr qV9 (fun h => h)
          have QV : Nw W1 V9 := hq.tr (qT3.tr qV9)
          have KO1 := Lib.hid (fun w9 (q9 : Nw V9 w9) => KO0.out w9 ((qT3.tr qV9).tr q9))
          clear yU2 yU1 m9 hV9 qU1 q2b th one yX3 hq
          go_upto_region 13 with (fail)
          rw [← HV9.out]
          clear c0 f0
          go_wp2_with fail
          go_loopw [6] (fun i wr => kdR V9 i wr) (fun i _ => 9 - (intOf i).toNat)
          case atStart => exact ⟨4, by omega, by omega, rfl, Fr.refl _ _⟩
          case round =>
            obtain ⟨n, hn9, hn4, rfl, hqk⟩ := hrel
            by_cases hlt3 : n < 9
            · have hn0 : (n : Int) < 9 := by omega
              have yX := yX.fr hqk (fun h => h)
              have yY := yY.fr hqk (fun h => h)
              have KO := Lib.hid (fun w9 (q9 : Nw wr w9) => KO1.out w9 (hqk.tr q9))
              obtain ⟨kd, hkd⟩ : ∃ kd : Int, kd = (n : Int) := ⟨_, rfl⟩
              have hk3 : 4 ≤ kd ∧ kd ≤ 10 := by omega
              rw [← hkd] at hn0
              rw [← hkd]
              have HKD := Lib.hid hkd
              clear hkd
              go_upto_region 16 with (fail)
              refine wp_region_bl3 6 30 48 wr (letsC (six i a b)) (fun g => deedsN (four i a b kd g)) (deedsN (pair a b kd)) (by kernel_rfl) (by kernel_rfl) (Fr.refl _ _) ?_
              apply wpEffT_cons
              focus
                intro B L w9 hL hD hC
                refine .inl ⟨by rfl, ?_⟩
                unfold effAt
                go_simp
                refine (to_any w9 1).mono ?_
                rintro e w8 ⟨rfl, q8⟩
                exact ⟨rfl, hC.step q8 (by kernel_rfl) hD (by rfl) (by rfl) (by rfl)⟩
              simp only [Act.put, List.setIfInBounds_toArray, List.set_cons_zero, List.set_cons_succ]
              apply wpEffT_cons
              focus
                intro B L w9 hL hD hC
                refine .inl ⟨by rfl, ?_⟩
                exact effAt_cells 50 _ rfl X 0 rfl (letL (xM i a b)) _ (Blk.cells_at (l := letL (xM i a b)) (yX.fr hC.2.1 (fun h => h)) 0) Tryz.underlying50 rfl (by kernel_rfl) (hC.keep (by kernel_rfl) hD (by rfl) (by rfl) (by rfl))
              simp only [Act.put, List.setIfInBounds_toArray, List.set_cons_zero, List.set_cons_succ]
              apply wpEffT_cons
              focus
                intro B L w9 hL hD hC
                refine .inl ⟨by rfl, ?_⟩
                exact effAt_cells 50 _ rfl Y 0 rfl (letL yM) _ (Blk.cells_at (l := letL yM) (yY.fr hC.2.1 (fun h => h)) 0) Tryz.underlying50 rfl (by kernel_rfl) (hC.keep (by kernel_rfl) hD (by rfl) (by rfl) (by rfl))
              simp only [Act.put, List.setIfInBounds_toArray, List.set_cons_zero, List.set_cons_succ]
              apply wpEffT_cons
              focus
                intro B L w9 hL hD hC
                refine .inl ⟨by rfl, ?_⟩
                unfold effAt
                go_simp
                refine (to_any w9 2).mono ?_
                rintro e w8 ⟨rfl, q8⟩
                exact ⟨rfl, hC.step q8 (by kernel_rfl) hD (by rfl) (by rfl) (by rfl)⟩
              simp only [Act.put, List.setIfInBounds_toArray, List.set_cons_zero, List.set_cons_succ]
              apply wpEffT_cons
              focus
                intro B L w9 hL hD hC
                refine .inl ⟨by rfl, ?_⟩
                exact effAt_cells 50 _ rfl X 0 rfl (letL (xM i a b)) _ (Blk.cells_at (l := letL (xM i a b)) (yX.fr hC.2.1 (fun h => h)) 0) Tryz.underlying50 rfl (by kernel_rfl) (hC.keep (by kernel_rfl) hD (by rfl) (by rfl) (by rfl))
              simp only [Act.put, List.setIfInBounds_toArray, List.set_cons_zero, List.set_cons_succ]
              apply wpEffT_cons
              focus
                intro B L w9 hL hD hC
                refine .inl ⟨by rfl, ?_⟩
                unfold effAt
                go_simp
                refine (to_any w9 3).mono ?_
                rintro e w8 ⟨rfl, q8⟩
                exact ⟨rfl, hC.step q8 (by kernel_rfl) hD (by rfl) (by rfl) (by rfl)⟩
              simp only [Act.put, List.setIfInBounds_toArray, List.set_cons_zero, List.set_cons_succ]
              refine wpEffT_free (fun g => .slice (some ⟨g, 0, none⟩) 6 6) ?_ ?_
              focus
                intro B L w9 hL hD hC
                refine .inl ⟨by rfl, ?_⟩
                refine effAtT_buildN 28 6 _ 20 [letL (toM 1), letL (xM i a b), letL yM, letL (toM 2), letL (xM i a b), letL (toM 3)] (.agg #[U8V 0, I64 0, I64 0, I64 0, I64 0, I64 0, I64 0, I64 0, .bool false, .slice none 0 0, I64 0, I64 0, .slice none 0 0, .slice none 0 0, .slice none 0 0, .slice none 0 0, I64 0, I64 0, I64 0, .slice none 0 0]) rfl Tryz.underlying28 (by kernel_rfl) rfl (by decide) (by decide) (by simp) (by decide) rfl ⟨w9.heap.size, rfl, hC.b1 hL 7 (by kernel_rfl) (by kernel_rfl) ((Fr.refl (fun _ => False) w9).alloc _) (by kernel_rfl) hD (by rfl) (by rfl) ?_⟩
                exact sl_new w9 50 _ _ rfl
              simp only [Act.put, List.setIfInBounds_toArray, List.set_cons_zero, List.set_cons_succ]
              refine wpEffT_dep (fun B => .agg #[I64 0, I64 0, I64 0, .slice (some ⟨B 6, 0, none⟩) 6 6]) (fun B B' h => congrArg (fun g : Nat => Value.agg #[I64 0, I64 0, I64 0, .slice (some ⟨g, 0, none⟩) 6 6]) (h 6 (by kernel_rfl))) ?_ ?_
              focus
                intro B L w9 hL hD hC
                refine .inl ⟨by rfl, ?_⟩
                unfold effAt
                go_simp
                exact ⟨rfl, hC.keep (by kernel_rfl) hD (by rfl) (by rfl) (by rfl)⟩
              simp only [Act.put, List.setIfInBounds_toArray, List.set_cons_zero, List.set_cons_succ]
              apply wpEffT_cons
              focus
                intro B L w9 hL hD hC
                refine .inl ⟨by rfl, ?_⟩
                unfold effAt
                go_simp
                exact ⟨rfl, hC.keep (by kernel_rfl) hD (by rfl) (by rfl) (by rfl)⟩
              simp only [Act.put, List.setIfInBounds_toArray, List.set_cons_zero, List.set_cons_succ]
              apply wpEffT_cons
              focus
                intro B L w9 hL hD hC
                refine .inl ⟨by rfl, ?_⟩
                unfold effAt
                go_simp
                exact ⟨rfl, hC.keep (by kernel_rfl) hD (by rfl) (by rfl) (by rfl)⟩
              simp only [Act.put, List.setIfInBounds_toArray, List.set_cons_zero, List.set_cons_succ]
              apply wpEffT_cons
              focus
                intro B L w9 hL hD hC
                refine .inl ⟨by rfl, ?_⟩
                unfold effAt
                go_simp
                exact ⟨rfl, hC.keep (by kernel_rfl) hD (by rfl) (by rfl) (by rfl)⟩
              simp only [Act.put, List.setIfInBounds_toArray, List.set_cons_zero, List.set_cons_succ]
              apply wpEffT_cons
              focus
                intro B L w9 hL hD hC
                refine .inl ⟨by rfl, ?_⟩
                unfold effAt
                go_simp
                exact ⟨rfl, hC.keep (by kernel_rfl) hD (by rfl) (by rfl) (by rfl)⟩
              simp only [Act.put, List.setIfInBounds_toArray, List.set_cons_zero, List.set_cons_succ]
              apply wpEffT_cons
              focus
                intro B L w9 hL hD hC
                obtain ⟨hc8, hc9⟩ := KO.out w9 hC.2.1
                refine .inl ⟨by rfl, ?_⟩
                unfold effAt
                go_simp
                exact ⟨rfl, hC.keep (by kernel_rfl) hD (by rfl) (by rfl) (by rfl)⟩
              simp only [Act.put, List.setIfInBounds_toArray, List.set_cons_zero, List.set_cons_succ]
              apply wpEffT_cons
              focus
                intro B L w9 hL hD hC
                refine .inl ⟨by rfl, ?_⟩
                unfold effAt
                go_simp
                exact ⟨rfl, hC.keep (by kernel_rfl) hD (by rfl) (by rfl) (by rfl)⟩
              simp only [Act.put, List.setIfInBounds_toArray, List.set_cons_zero, List.set_cons_succ]
              apply wpEffT_cons
              focus
                intro B L w9 hL hD hC
                refine .inl ⟨by rfl, ?_⟩
                unfold effAt
                go_simp
                exact ⟨rfl, hC.keep (by kernel_rfl) hD (by rfl) (by rfl) (by rfl)⟩
              simp only [Act.put, List.setIfInBounds_toArray, List.set_cons_zero, List.set_cons_succ]
              apply wpEffT_cons
              focus
                intro B L w9 hL hD hC
                refine .inl ⟨by rfl, ?_⟩
                unfold effAt
                go_simp
                exact ⟨rfl, hC.keep (by kernel_rfl) hD (by rfl) (by rfl) (by rfl)⟩
              simp only [Act.put, List.setIfInBounds_toArray, List.set_cons_zero, List.set_cons_succ]
              apply wpEffT_cons
              focus
                intro B L w9 hL hD hC
                obtain ⟨hc8, hc9⟩ := KO.out w9 hC.2.1
                refine .inl ⟨by rfl, ?_⟩
                unfold effAt
                go_simp
                exact ⟨rfl, hC.keep (by kernel_rfl) hD (by rfl) (by rfl) (by rfl)⟩
              simp only [Act.put, List.setIfInBounds_toArray, List.set_cons_zero, List.set_cons_succ]
              apply wpEffT_cons
              focus
                intro B L w9 hL hD hC
                refine .inl ⟨by rfl, ?_⟩
                unfold effAt
                go_simp
                exact ⟨rfl, hC.keep (by kernel_rfl) hD (by rfl) (by rfl) (by rfl)⟩
              simp only [Act.put, List.setIfInBounds_toArray, List.set_cons_zero, List.set_cons_succ]
              apply wpEffT_cons
              focus
                intro B L w9 hL hD hC
                refine .inl ⟨by rfl, ?_⟩
                unfold effAt
                go_simp
                exact ⟨rfl, hC.keep (by kernel_rfl) hD (by rfl) (by rfl) (by rfl)⟩
              simp only [Act.put, List.setIfInBounds_toArray, List.set_cons_zero, List.set_cons_succ]
              apply wpEffT_cons
              focus
                intro B L w9 hL hD hC
                refine .inl ⟨by rfl, ?_⟩
                unfold effAt
                go_simp
                exact ⟨rfl, hC.keep (by kernel_rfl) hD (by rfl) (by rfl) (by rfl)⟩
              simp only [Act.put, List.setIfInBounds_toArray, List.set_cons_zero, List.set_cons_succ]
              apply wpEffT_cons
              focus
                intro B L w9 hL hD hC
                refine .inl ⟨by rfl, ?_⟩
                unfold effAt
                go_simp
                exact ⟨rfl, hC.keep (by kernel_rfl) hD (by rfl) (by rfl) (by rfl)⟩
              simp only [Act.put, List.setIfInBounds_toArray, List.set_cons_zero, List.set_cons_succ]
              apply wpEffT_cons
              focus
                intro B L w9 hL hD hC
                refine .inl ⟨by rfl, ?_⟩
                unfold effAt
                go_simp
                exact ⟨rfl, hC.keep (by kernel_rfl) hD (by rfl) (by rfl) (by rfl)⟩
              simp only [Act.put, List.setIfInBounds_toArray, List.set_cons_zero, List.set_cons_succ]
              apply wpEffT_cons
              focus
                intro B L w9 hL hD hC
                refine .inl ⟨by rfl, ?_⟩
                unfold effAt
                go_simp
                exact ⟨rfl, hC.keep (by kernel_rfl) hD (by rfl) (by rfl) (by rfl)⟩
              simp only [Act.put, List.setIfInBounds_toArray, List.set_cons_zero, List.set_cons_succ]
              apply wpEffT_cons
              focus
                intro B L w9 hL hD hC
                refine .inl ⟨by rfl, ?_⟩
                unfold effAt
                go_simp
                exact ⟨rfl, hC.keep (by kernel_rfl) hD (by rfl) (by rfl) (by rfl)⟩
              simp only [Act.put, List.setIfInBounds_toArray, List.set_cons_zero, List.set_cons_succ]
              apply wpEffT_cons
              focus
                intro B L w9 hL hD hC
                obtain ⟨hc8, hc9⟩ := KO.out w9 hC.2.1
                refine .inl ⟨by rfl, ?_⟩
                unfold effAt
                go_simp
                exact ⟨rfl, hC.keep (by kernel_rfl) hD (by rfl) (by rfl) (by rfl)⟩
              simp only [Act.put, List.setIfInBounds_toArray, List.set_cons_zero, List.set_cons_succ]
              apply wpEffT_cons
              focus
                intro B L w9 hL hD hC
                refine .inl ⟨by rfl, ?_⟩
                unfold effAt
                go_simp
                exact ⟨rfl, hC.keep (by kernel_rfl) hD (by rfl) (by rfl) (by rfl)⟩
              simp only [Act.put, List.setIfInBounds_toArray, List.set_cons_zero, List.set_cons_succ]
              apply wpEffT_cons
              focus
                intro B L w9 hL hD hC
                refine .inl ⟨by rfl, ?_⟩
                unfold effAt
                go_simp
                exact ⟨rfl, hC.keep (by kernel_rfl) hD (by rfl) (by rfl) (by rfl)⟩
              simp only [Act.put, List.setIfInBounds_toArray, List.set_cons_zero, List.set_cons_succ]
              apply wpEffT_cons
              focus
                intro B L w9 hL hD hC
                refine .inl ⟨by rfl, ?_⟩
                unfold effAt
                go_simp
                exact ⟨rfl, hC.keep (by kernel_rfl) hD (by rfl) (by rfl) (by rfl)⟩
              simp only [Act.put, List.setIfInBounds_toArray, List.set_cons_zero, List.set_cons_succ]
              apply wpEffT_cons
              focus
                intro B L w9 hL hD hC
                obtain ⟨hc8, hc9⟩ := KO.out w9 hC.2.1
                refine .inl ⟨by rfl, ?_⟩
                unfold effAt
                go_simp
                exact ⟨rfl, hC.keep (by kernel_rfl) hD (by rfl) (by rfl) (by rfl)⟩
              simp only [Act.put, List.setIfInBounds_toArray, List.set_cons_zero, List.set_cons_succ]
              apply wpEffT_cons
              focus
                intro B L w9 hL hD hC
                refine .inl ⟨by rfl, ?_⟩
                unfold effAt
                go_simp
                exact ⟨rfl, hC.keep (by kernel_rfl) hD (by rfl) (by rfl) (by rfl)⟩
              simp only [Act.put, List.setIfInBounds_toArray, List.set_cons_zero, List.set_cons_succ]
              refine wpEffT_free (fun g => .slice (some ⟨g, 0, none⟩) 4 4) ?_ ?_
              focus
                intro B L w9 hL hD hC
                refine .inl ⟨by rfl, ?_⟩
                refine effAtT_buildN 22 4 _ 4 [[I64 0, I64 0, I64 0, .slice (some ⟨B 6, 0, none⟩) 6 6], [I64 kd, I64 a, I64 b, .slice none 0 0], [I64 kd, I64 1, I64 2, .slice none 0 0], [I64 kd, I64 b, I64 a, .slice none 0 0]] (.agg #[I64 0, I64 0, I64 0, .slice none 0 0]) rfl Tryz.underlying22 (by kernel_rfl) rfl (by decide) (by decide) (by simp) (by decide) rfl ⟨w9.heap.size, rfl, hC.b2 ((Fr.refl (fun _ => False) w9).alloc _) (by kernel_rfl) hD (by rfl) (by rfl) ?_⟩
                exact sl_new w9 35 _ _ rfl
              simp only [Act.put, List.setIfInBounds_toArray, List.set_cons_zero, List.set_cons_succ]
              apply wpEffT_cons
              focus
                intro B L w9 hL hD hC
                refine .inl ⟨by rfl, ?_⟩
                unfold effAt
                go_simp
                exact ⟨rfl, hC.keep (by kernel_rfl) hD (by rfl) (by rfl) (by rfl)⟩
              simp only [Act.put, List.setIfInBounds_toArray, List.set_cons_zero, List.set_cons_succ]
              apply wpEffT_cons
              focus
                intro B L w9 hL hD hC
                refine .inl ⟨by rfl, ?_⟩
                unfold effAt
                go_simp
                exact ⟨rfl, hC.keep (by kernel_rfl) hD (by rfl) (by rfl) (by rfl)⟩
              simp only [Act.put, List.setIfInBounds_toArray, List.set_cons_zero, List.set_cons_succ]
              apply wpEffT_cons
              focus
                intro B L w9 hL hD hC
                refine .inl ⟨by rfl, ?_⟩
                unfold effAt
                go_simp
                exact ⟨rfl, hC.keep (by kernel_rfl) hD (by rfl) (by rfl) (by rfl)⟩
              simp only [Act.put, List.setIfInBounds_toArray, List.set_cons_zero, List.set_cons_succ]
              apply wpEffT_cons
              focus
                intro B L w9 hL hD hC
                refine .inl ⟨by rfl, ?_⟩
                unfold effAt
                go_simp
                exact ⟨rfl, hC.keep (by kernel_rfl) hD (by rfl) (by rfl) (by rfl)⟩
              simp only [Act.put, List.setIfInBounds_toArray, List.set_cons_zero, List.set_cons_succ]
              apply wpEffT_cons
              focus
                intro B L w9 hL hD hC
                refine .inl ⟨by rfl, ?_⟩
                unfold effAt
                go_simp
                exact ⟨rfl, hC.keep (by kernel_rfl) hD (by rfl) (by rfl) (by rfl)⟩
              simp only [Act.put, List.setIfInBounds_toArray, List.set_cons_zero, List.set_cons_succ]
              apply wpEffT_cons
              focus
                intro B L w9 hL hD hC
                obtain ⟨hc8, hc9⟩ := KO.out w9 hC.2.1
                refine .inl ⟨by rfl, ?_⟩
                unfold effAt
                go_simp
                exact ⟨rfl, hC.keep (by kernel_rfl) hD (by rfl) (by rfl) (by rfl)⟩
              simp only [Act.put, List.setIfInBounds_toArray, List.set_cons_zero, List.set_cons_succ]
              apply wpEffT_cons
              focus
                intro B L w9 hL hD hC
                refine .inl ⟨by rfl, ?_⟩
                unfold effAt
                go_simp
                exact ⟨rfl, hC.keep (by kernel_rfl) hD (by rfl) (by rfl) (by rfl)⟩
              simp only [Act.put, List.setIfInBounds_toArray, List.set_cons_zero, List.set_cons_succ]
              apply wpEffT_cons
              focus
                intro B L w9 hL hD hC
                refine .inl ⟨by rfl, ?_⟩
                unfold effAt
                go_simp
                exact ⟨rfl, hC.keep (by kernel_rfl) hD (by rfl) (by rfl) (by rfl)⟩
              simp only [Act.put, List.setIfInBounds_toArray, List.set_cons_zero, List.set_cons_succ]
              apply wpEffT_cons
              focus
                intro B L w9 hL hD hC
                refine .inl ⟨by rfl, ?_⟩
                unfold effAt
                go_simp
                exact ⟨rfl, hC.keep (by kernel_rfl) hD (by rfl) (by rfl) (by rfl)⟩
              simp only [Act.put, List.setIfInBounds_toArray, List.set_cons_zero, List.set_cons_succ]
              apply wpEffT_cons
              focus
                intro B L w9 hL hD hC
                refine .inl ⟨by rfl, ?_⟩
                unfold effAt
                go_simp
                exact ⟨rfl, hC.keep (by kernel_rfl) hD (by rfl) (by rfl) (by rfl)⟩
              simp only [Act.put, List.setIfInBounds_toArray, List.set_cons_zero, List.set_cons_succ]
              apply wpEffT_cons
              focus
                intro B L w9 hL hD hC
                refine .inl ⟨by rfl, ?_⟩
                unfold effAt
                go_simp
                exact ⟨rfl, hC.keep (by kernel_rfl) hD (by rfl) (by rfl) (by rfl)⟩
              simp only [Act.put, List.setIfInBounds_toArray, List.set_cons_zero, List.set_cons_succ]
              apply wpEffT_cons
              focus
                intro B L w9 hL hD hC
                obtain ⟨hc8, hc9⟩ := KO.out w9 hC.2.1
                refine .inl ⟨by rfl, ?_⟩
                unfold effAt
                go_simp
                exact ⟨rfl, hC.keep (by kernel_rfl) hD (by rfl) (by rfl) (by rfl)⟩
              simp only [Act.put, List.setIfInBounds_toArray, List.set_cons_zero, List.set_cons_succ]
              apply wpEffT_cons
              focus
                intro B L w9 hL hD hC
                refine .inl ⟨by rfl, ?_⟩
                unfold effAt
                go_simp
                exact ⟨rfl, hC.keep (by kernel_rfl) hD (by rfl) (by rfl) (by rfl)⟩
              simp only [Act.put, List.setIfInBounds_toArray, List.set_cons_zero, List.set_cons_succ]
              apply wpEffT_cons
              focus
                intro B L w9 hL hD hC
                refine .inl ⟨by rfl, ?_⟩
                unfold effAt
                go_simp
                exact ⟨rfl, hC.keep (by kernel_rfl) hD (by rfl) (by rfl) (by rfl)⟩
              simp only [Act.put, List.setIfInBounds_toArray, List.set_cons_zero, List.set_cons_succ]
              apply wpEffT_cons
              focus
                intro B L w9 hL hD hC
                refine .inl ⟨by rfl, ?_⟩
                unfold effAt
                go_simp
                exact ⟨rfl, hC.keep (by kernel_rfl) hD (by rfl) (by rfl) (by rfl)⟩
              simp only [Act.put, List.setIfInBounds_toArray, List.set_cons_zero, List.set_cons_succ]
              apply wpEffT_cons
              focus
                intro B L w9 hL hD hC
                obtain ⟨hc8, hc9⟩ := KO.out w9 hC.2.1
                refine .inl ⟨by rfl, ?_⟩
                unfold effAt
                go_simp
                exact ⟨rfl, hC.keep (by kernel_rfl) hD (by rfl) (by rfl) (by rfl)⟩
              simp only [Act.put, List.setIfInBounds_toArray, List.set_cons_zero, List.set_cons_succ]
              apply wpEffT_cons
              focus
                intro B L w9 hL hD hC
                refine .inl ⟨by rfl, ?_⟩
                unfold effAt
                go_simp
                exact ⟨rfl, hC.keep (by kernel_rfl) hD (by rfl) (by rfl) (by rfl)⟩
              simp only [Act.put, List.setIfInBounds_toArray, List.set_cons_zero, List.set_cons_succ]
              refine wpEffT_free (fun g => .slice (some ⟨g, 0, none⟩) 2 2) ?_ ?_
              focus
                intro B L w9 hL hD hC
                refine .inl ⟨by rfl, ?_⟩
                refine effAtT_buildN 22 2 _ 4 [[I64 8, I64 0, I64 b, .slice none 0 0], [I64 kd, I64 a, I64 b, .slice none 0 0]] (.agg #[I64 0, I64 0, I64 0, .slice none 0 0]) rfl Tryz.underlying22 (by kernel_rfl) rfl (by decide) (by decide) (by simp) (by decide) rfl ⟨w9.heap.size, rfl, hC.b3 ((Fr.refl (fun _ => False) w9).alloc _) (by kernel_rfl) hD (by rfl) (by rfl) ?_⟩
                exact sl_new w9 35 _ _ rfl
              simp only [Act.put, List.setIfInBounds_toArray, List.set_cons_zero, List.set_cons_succ]
              apply wpEffT_cons
              focus
                intro B L w9 hL hD hC
                refine .inl ⟨by rfl, ?_⟩
                have hrr := round_runs w9 (B 6) (B 30) (B 48) i a b kd (kd - 3) (hC.2.2.1 (hC.1.of (a := 7) (b := 6) (by kernel_rfl) (hC.1.of (a := 30) (b := 7) (by kernel_rfl) (hD 30 (by kernel_rfl))))) (hC.2.2.2.1 (hD 30 (by kernel_rfl))) (hC.2.2.2.2 (hD 48 (by kernel_rfl))) (by omega) (by omega) (by omega) (by omega)
                have hw3 : IntKind.i64.wrap (kd - 3) = kd - 3 := IntWalk.i64_in _ (by omega)
                unfold effAt
                go_simp
                refine hrr.mono ?_
                rintro e w8 ⟨rfl, q8⟩
                exact ⟨rfl, hC.step q8 (by kernel_rfl) hD (by rfl) (by rfl) (by rfl)⟩
              simp only [Act.put, List.setIfInBounds_toArray, List.set_cons_zero, List.set_cons_succ]
              apply wpEffT_cons
              focus
                intro B L w9 hL hD hC
                refine .inl ⟨by rfl, ?_⟩
                unfold effAt
                go_simp
                exact ⟨rfl, hC.keep (by kernel_rfl) hD (by rfl) (by rfl) (by rfl)⟩
              simp only [Act.put, List.setIfInBounds_toArray, List.set_cons_zero, List.set_cons_succ]
              refine wpEffT_nil fun B wz hC => ?_
              have q6 := hC.2.1
              clear hC
              go_wp2_with fail
              go_roundw
              case rel => have e9 := HKD.out; exact ⟨n + 1, by omega, by omega, by go_num, hqk.tr q6⟩
              case measure => have e9 := HKD.out; simp [intOf]; omega
            · obtain rfl : n = 9 := by omega
              go_wp2_with fail
              go_roundw
              case rel => exact ⟨k + 1, hlt2, by go_num, QV.tr hqk⟩
              case measure => simp [intOf]; omega
        · obtain rfl : k = 6 := by omega
          go_wp2_with fail
          go_roundw
          case rel => exact ⟨i + 1, hlt, by go_num, hq⟩
          case measure => simp [intOf]; omega
    · obtain rfl : i = 6 := by omega
      go_upto_region 18 with (fail)
      rename_i hK18
      exact ends25_mid W w0 (q1.tr hq) _ rfl _ hK18
end Go.Proofs.YtippdjaakcgeoaaGreat
