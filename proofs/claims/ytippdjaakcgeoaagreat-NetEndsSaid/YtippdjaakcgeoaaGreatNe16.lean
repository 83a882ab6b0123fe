/- Lemmas of the walks: LtB, LtC. (Laid together by shake.py.) -/
import Derived.Test.YtippdjaakcgeoaaGreatNe15
set_option linter.unusedVariables false
set_option linter.unusedSimpArgs false
namespace Go.Proofs.YtippdjaakcgeoaaGreat
open Go Go.RowKit
set_option linter.unusedVariables false
set_option linter.unusedSimpArgs false
def lent_entsR (w : World) (g : Nat) (xs : List EntM) (v i : Value) (wr : World) : Prop :=
  ∃ (k : Nat) (ys : List EntM), k ≤ xs.length ∧ i = .int .i64 k ∧ v = .slice (some ⟨g, 0, none⟩) k (xs.length + 12) ∧ ys.map EntM.x = (xs.take k).map EntM.x ∧ Own wr 87 7 (some ⟨g, 0, none⟩) k (xs.length + 12) (entsC ys) ∧ (∀ y ∈ ys, EntLent wr (fun j => Since w j ∧ j ≠ g) y) ∧ Nw w wr
def lent_entsR2 (w : World) (g n : Nat) (ys : List EntM) (v i : Value) (wr : World) : Prop :=
  ∃ k : Nat, k ≤ 12 ∧ i = .int .i64 k ∧ v = .slice (some ⟨g, 0, none⟩) (n + k) (n + 12) ∧ Own wr 87 7 (some ⟨g, 0, none⟩) (n + k) (n + 12) (entsC (ys ++ (List.range k).map (mkEn 1))) ∧ (∀ y ∈ ys, EntLent wr (fun j => Since w j ∧ j ≠ g) y) ∧ Nw w wr
set_option maxRecDepth 100000 in
set_option maxHeartbeats 4000000 in
theorem lent_ents (w : World) (F : Nat → Prop) (A : Option Addr) (c : Nat) (xs : List EntM) (h : Sl w F A (entsC xs)) (e1 : ∀ e ∈ xs, EntIn w F e) (hz : ∀ e ∈ xs, EntSz e) (hsz : xs.length ≤ 100000000) :
    Calls Tryz.prog 66 #[.slice A xs.length c] w fun e w' => ∃ A' c' ys, e = .returned (.slice A' xs.length c') ∧ ys.map EntM.x = xs.map EntM.x ∧ EntsLent w' (Since w) ⟨A', c', ys⟩ ∧ Nw w w' := by
  have HZ := Lib.hid hz
  have E1 := Lib.hid e1
  obtain ⟨n, hn⟩ : ∃ n, xs.length = n := ⟨_, rfl⟩
  obtain ⟨g, hg⟩ : ∃ g, w.heap.size = g := ⟨_, rfl⟩
  rw [hn] at hsz ⊢
  have HN := Lib.hid hn
  have HG := Lib.hid hg
  clear hz e1 hn hg
  go_enter Tryz.func66, Tryz.ntmps66
  go_upto_region 2 with (at_make; refine wl_make0 (size := 7) rfl _ _ _ rfl 136 (.agg #[I64 0, U8V 0, .slice none 0 0, .slice none 0 0, .slice none 0 0, .slice none 0 0, .slice none 0 0]) Tryz.underlying43 info_ent .i64 .i64 ((n : Int) + 12) (n + 12) rfl rfl (by omega) (by omega) (by unfold maxLen; omega) ?_; intro w1 ho1 hq1)
  rw [HG.out] at ho1 ⊢
  go_wp2_with fail
  go_loopw [3, 4] (fun v i wr => lent_entsR w g xs v i wr) (fun _ i _ => n - (intOf i).toNat)
  case atStart => exact ⟨0, [], Nat.zero_le _, rfl, by rw [HN.out], rfl, by rw [HN.out]; exact ho1, (by intro y hy; cases hy), hq1⟩
  case round =>
    clear ho1 hq1
    obtain ⟨k, ys, hk, rfl, rfl, ht, ho, hys, hq⟩ := hrel
    have HT := Lib.hid ht
    clear ht
    rw [HN.out] at hk ho ⊢
    have hgw := ho.lt g ((inA_some _ _).2 rfl)
    by_cases hlt : k < n
    · have hlx : k < xs.length := by rw [HN.out]; exact hlt
      obtain ⟨b, o, rfl, _, _, hc⟩ := (h.fr hq (fun _ _ h => h)).ent hlx
      have hi0 : (k : Int) < (n : Int) := by omega
      have x1 := (E1.out _ (List.getElem_mem hlx)).nw hq
      have z1 := HZ.out _ (List.getElem_mem hlx)
      obtain ⟨x, hx⟩ : ∃ x, xs[k] = x := ⟨_, rfl⟩
      rw [hx] at x1 z1 hc
      have HX := Lib.hid hx
      have HYS := Lib.hid hys
      clear hx hys
      go_wp2_with (refine wl_load_cells rfl 87 _ rfl b (o + k * 7) rfl _ _ hc Tryz.underlying87 rfl (by kernel_rfl) ?_)
      refine (lent_ent _ F x x1 z1).mono ?_
      rintro e w1 ⟨y, rfl, ey, iy, q1⟩
      obtain ⟨G, hG⟩ : ∃ G, G = w1.heap.size := ⟨_, rfl⟩
      obtain ⟨V0, hV0⟩ : ∃ V, V = w1.alloc (.cells #[I64 0, U8V 0, .slice none 0 0, .slice none 0 0, .slice none 0 0, .slice none 0 0, .slice none 0 0] 87) := ⟨_, rfl⟩
      have qv0 : Nw w1 V0 := by rw [hV0]; exact (Fr.refl (fun _ => False) w1).alloc _
      have g0 : Blk V0 G 87 #[I64 0, U8V 0, .slice none 0 0, .slice none 0 0, .slice none 0 0, .slice none 0 0, .slice none 0 0] := by rw [hV0, hG]; exact Blk.new _ _ _
      obtain ⟨V1, hV1⟩ : ∃ V, V = V0.setCells G 0 [I64 y.term, U8V y.kind, .slice y.cmd.a y.cmd.l.length y.cmd.c, .slice y.cfg.v.a y.cfg.v.l.length y.cfg.v.c, .slice y.cfg.o.a y.cfg.o.l.length y.cfg.o.c, .slice y.cfg.l.a y.cfg.l.l.length y.cfg.l.c, .slice y.cfg.w.a y.cfg.w.l.length y.cfg.w.c] := ⟨_, rfl⟩
      have g1 : Blk V1 G 87 #[I64 y.term, U8V y.kind, .slice y.cmd.a y.cmd.l.length y.cmd.c, .slice y.cfg.v.a y.cfg.v.l.length y.cfg.v.c, .slice y.cfg.o.a y.cfg.o.l.length y.cfg.o.c, .slice y.cfg.l.a y.cfg.l.l.length y.cfg.l.c, .slice y.cfg.w.a y.cfg.w.l.length y.cfg.w.c] := by rw [hV1]; exact Blk.setCells (l := [I64 0, U8V 0, .slice none 0 0, .slice none 0 0, .slice none 0 0, .slice none 0 0, .slice none 0 0]) g0 0 [I64 y.term, U8V y.kind, .slice y.cmd.a y.cmd.l.length y.cmd.c, .slice y.cfg.v.a y.cfg.v.l.length y.cfg.v.c, .slice y.cfg.o.a y.cfg.o.l.length y.cfg.o.c, .slice y.cfg.l.a y.cfg.l.l.length y.cfg.l.c, .slice y.cfg.w.a y.cfg.w.l.length y.cfg.w.c]
      have m1 : Fr (· = G) V0 V1 := by rw [hV1]; exact (Fr.refl (· = G) _).setCells _ _
      have qv1 : Nw w1 V1 := qv0.new m1 (fun b hb => by omega)
      have hth := Blk.there (l := [I64 0, U8V 0, .slice none 0 0, .slice none 0 0, .slice none 0 0, .slice none 0 0, .slice none 0 0]) g0 0 7 (by show 0 + 7 ≤ 7; omega)
      have hone := entA_one y
      have hcy := entL_cell y
      have HG1 := Lib.hid hG
      have HV0 := Lib.hid hV0
      have HV1 := Lib.hid hV1
      have HEY := Lib.hid ey
      clear hG hV0 hV1 hc m1 g0 qv0 ey
      go_upto_region 6 with (rw [← HG1.out, ← HV0.out]; refine wpList_store_mid rfl 87 _ _ rfl G 0 #[I64 y.term, U8V y.kind, .slice y.cmd.a y.cmd.l.length y.cmd.c, .slice y.cfg.v.a y.cfg.v.l.length y.cfg.v.c, .slice y.cfg.o.a y.cfg.o.l.length y.cfg.o.c, .slice y.cfg.l.a y.cfg.l.l.length y.cfg.l.c, .slice y.cfg.w.a y.cfg.w.l.length y.cfg.w.c] rfl rfl hth (by kernel_rfl) hone ?_)
      rw [← HV1.out]
      have ho1 := (ho.fr q1 (fun _ _ h => h)).fr qv1 (fun _ _ h => h)
      have sln := sl_new V1 87 [I64 y.term, U8V y.kind, .slice y.cmd.a y.cmd.l.length y.cmd.c, .slice y.cfg.v.a y.cfg.v.l.length y.cfg.v.c, .slice y.cfg.o.a y.cfg.o.l.length y.cfg.o.c, .slice y.cfg.l.a y.cfg.l.l.length y.cfg.l.c, .slice y.cfg.w.a y.cfg.w.l.length y.cfg.w.c] _ rfl
      have qa : Nw w1 (V1.alloc (.cells #[I64 y.term, U8V y.kind, .slice y.cmd.a y.cmd.l.length y.cmd.c, .slice y.cfg.v.a y.cfg.v.l.length y.cfg.v.c, .slice y.cfg.o.a y.cfg.o.l.length y.cfg.o.c, .slice y.cfg.l.a y.cfg.l.l.length y.cfg.l.c, .slice y.cfg.w.a y.cfg.w.l.length y.cfg.w.c] 87)) := qv1.alloc _
      have hoa := ho1.alloc (.cells #[I64 y.term, U8V y.kind, .slice y.cmd.a y.cmd.l.length y.cmd.c, .slice y.cfg.v.a y.cfg.v.l.length y.cfg.v.c, .slice y.cfg.o.a y.cfg.o.l.length y.cfg.o.c, .slice y.cfg.l.a y.cfg.l.l.length y.cfg.l.c, .slice y.cfg.w.a y.cfg.w.l.length y.cfg.w.c] 87)
      obtain ⟨V2, hV2⟩ : ∃ V, V = V1.alloc (.cells #[I64 y.term, U8V y.kind, .slice y.cmd.a y.cmd.l.length y.cmd.c, .slice y.cfg.v.a y.cfg.v.l.length y.cfg.v.c, .slice y.cfg.o.a y.cfg.o.l.length y.cfg.o.c, .slice y.cfg.l.a y.cfg.l.l.length y.cfg.l.c, .slice y.cfg.w.a y.cfg.w.l.length y.cfg.w.c] 87) := ⟨_, rfl⟩
      rw [← hV2] at sln qa hoa
      have HV2 := Lib.hid hV2
      clear hV2 ho1
      go_wp2_with (first | (refine wpList_load_row rfl 87 _ rfl G rfl 87 _ (0, 0) _ g1 Tryz.underlying87 rfl (by kernel_rfl) ?_) | (at_builtin; rw [← HV2.out]; refine wl_append2 rfl _ _ _ rfl 136 (.agg #[I64 0, U8V 0, .slice none 0 0, .slice none 0 0, .slice none 0 0, .slice none 0 0, .slice none 0 0]) Tryz.underlying43 info_ent rfl (by decide) rfl hoa rfl sln rfl hcy (by omega) (by unfold maxLen; omega) ?_; intro B' c' w2 hap))
      rcases hap with ⟨ho4, _, ⟨_, rfl, rfl, hf3⟩ | ⟨hlt9, _⟩⟩
      rotate_left
      · omega
      go_wp2_with fail
      go_roundw
      case rel =>
        have q2 : Nw w w2 := (hq.tr (q1.tr qa)).new hf3 (fun j hj => by rw [(inA_some _ _).1 hj, ← HG.out]; exact Nat.le_refl _)
        refine ⟨k + 1, ys ++ [y], by rw [HN.out]; omega, by go_num, by rw [HN.out], ?_, by rw [entsC_append, entsC_one, HN.out]; exact ho4, fun u hu => ?_, q2⟩
        · rw [List.take_succ_eq_append_getElem hlx, List.map_append, List.map_append, HT.out, HX.out, List.map_singleton, List.map_singleton, HEY.out]
        · rcases List.mem_append.1 hu with hu | hu
          · exact ((((HYS.out u hu).nw q1).nw qa).fr hf3 (fun j hj hj2 => hj.2 ((inA_some _ _).1 hj2)))
          · rw [List.mem_singleton.1 hu]
            refine ((iy.nw qa).mono (F' := fun j => Since w j ∧ j ≠ g) (fun j hj _ => ⟨Nat.le_trans hq.size hj, fun e => by have hj2 : wr.heap.size ≤ j := hj; omega⟩)).fr hf3 (fun j hj hj2 => hj.2 ((inA_some _ _).1 hj2))
      case measure => simp [intOf]; omega
    · obtain rfl : n = k := by omega
      have hT := HT.out
      rw [List.take_of_length_le (by rw [HN.out]; exact Nat.le_refl _)] at hT
      have HT2 := Lib.hid hT
      have HYS := Lib.hid hys
      clear hT HT hys
      go_wp2_with fail
      go_loopw [3, 6] (fun v i wx => lent_entsR2 w g n ys v i wx) (fun _ i _ => 12 - (intOf i).toNat)
      case atStart => exact ⟨0, by omega, rfl, rfl, by simpa using ho, HYS.out, hq⟩
      case round =>
        clear ho hq HYS
        obtain ⟨k, hk, rfl, rfl, ho, hys, hq⟩ := hrel
        have HYS := Lib.hid hys
        clear hys
        by_cases hlt : k < 12
        · have hmk := fun w1 => markEntry_any w1 1 k (by omega) (by omega)
          have HMK := Lib.hid hmk
          have hcm := entL_cell (mkEn 1 k)
          clear hmk
          go_wp2_with fail
          refine (HMK.out _).mono ?_
          rintro e w3 ⟨rfl, q3⟩
          have ho3 := ho.fr q3 (fun _ _ h => h)
          have sln := sl_new w3 87 (entL (mkEn 1 k)) _ rfl
          have hoa := ho3.alloc (.cells (entA (mkEn 1 k)) 87)
          obtain ⟨V2, hV2⟩ : ∃ V, V = w3.alloc (.cells (entA (mkEn 1 k)) 87) := ⟨_, rfl⟩
          have qa : Nw w3 V2 := by rw [hV2]; exact (Fr.refl (fun _ => False) _).alloc _
          rw [← hV2] at sln hoa
          have HV2 := Lib.hid hV2
          clear hV2 ho3
          go_wp2_with (at_builtin; rw [← HV2.out]; refine wl_append2 rfl _ _ _ rfl 136 (.agg #[I64 0, U8V 0, .slice none 0 0, .slice none 0 0, .slice none 0 0, .slice none 0 0, .slice none 0 0]) Tryz.underlying43 info_ent rfl (by decide) rfl hoa rfl sln rfl hcm (by omega) (by unfold maxLen; omega) ?_; intro B' c' w2 hap)
          rcases hap with ⟨ho4, _, ⟨_, rfl, rfl, hf3⟩ | ⟨hlt9, _⟩⟩
          rotate_left
          · omega
          go_wp2_with fail
          go_roundw
          case rel =>
            have q2 : Nw w w2 := (hq.tr (q3.tr qa)).new hf3 (fun j hj => by rw [(inA_some _ _).1 hj, ← HG.out]; exact Nat.le_refl _)
            refine ⟨k + 1, by omega, by go_num, by simp [Nat.add_assoc], ?_, fun u hu => ((((HYS.out u hu).nw q3).nw qa).fr hf3 (fun j hj hj2 => hj.2 ((inA_some _ _).1 hj2))), q2⟩
            rw [List.range_succ]
            have e : n + (k + 1) = n + k + 1 := by omega
            rw [e, List.map_append, ← List.append_assoc, entsC_append, List.map_singleton, entsC_one]
            exact ho4
          case measure => simp [intOf]; omega
        · have hk12 : k = 12 := by omega
          subst hk12
          have hs := slice_h (P := Tryz.prog) 43 under_ents 7 size_ents (some ⟨g, 0, none⟩) (n + 12) (n + 12) n (by omega)
          go_wp2_with fail
          go_ret
          have hyl : ys.length = n := by
            have := congrArg List.length HT2.out
            rw [List.length_map, List.length_map, HN.out] at this
            exact this
          refine ⟨some ⟨g, 0, none⟩, n + 12, ys, rfl, HT2.out, ⟨⟨g, rfl, by show n + 12 = ys.length + 12; rw [hyl], by show n + 12 ≤ maxLen; unfold maxLen; omega, by rw [hyl]; exact ho, by show w.heap.size ≤ g; rw [HG.out]; exact Nat.le_refl _⟩, fun y hy => (HYS.out y hy).mono (fun j hj _ => hj.1)⟩, hq⟩
set_option maxRecDepth 100000 in
set_option maxHeartbeats 4000000 in
theorem lent_let (w : World) (F : Nat → Prop) (x : LetM) (hx : LetIn w F x) (hz : LetSz x) :
    Calls Tryz.prog 30 #[.agg (letA x)] w fun e w' => ∃ y : LetM, e = .returned (.agg (letA y)) ∧ y.x = x.x ∧ LetLent w' (Since w) y ∧ Nw w w' := by
  obtain ⟨X, hX⟩ : ∃ X, X = w.heap.size := ⟨_, rfl⟩
  obtain ⟨Y, hY⟩ : ∃ Y, Y = w.heap.size + 1 := ⟨_, rfl⟩
  obtain ⟨W0, hW0⟩ : ∃ W, W = w.alloc (.cells #[U8V x.kind, I64 x.group, I64 x.src, I64 x.dst, I64 x.term, I64 x.index, I64 x.logt, I64 x.commit, .bool x.ok, .slice x.ents.a x.ents.l.length x.ents.c, I64 x.base.index, I64 x.base.term, .slice x.base.cfg.v.a x.base.cfg.v.l.length x.base.cfg.v.c, .slice x.base.cfg.o.a x.base.cfg.o.l.length x.base.cfg.o.c, .slice x.base.cfg.l.a x.base.cfg.l.l.length x.base.cfg.l.c, .slice x.base.cfg.w.a x.base.cfg.w.l.length x.base.cfg.w.c, I64 x.size, I64 x.at_, I64 x.tag, .slice x.bytes.a x.bytes.l.length x.bytes.c] 50) := ⟨_, rfl⟩
  have p0 : Nw w W0 := by rw [hW0]; exact (Fr.refl (fun _ => False) _).alloc _
  have x0 : Blk W0 X 50 #[U8V x.kind, I64 x.group, I64 x.src, I64 x.dst, I64 x.term, I64 x.index, I64 x.logt, I64 x.commit, .bool x.ok, .slice x.ents.a x.ents.l.length x.ents.c, I64 x.base.index, I64 x.base.term, .slice x.base.cfg.v.a x.base.cfg.v.l.length x.base.cfg.v.c, .slice x.base.cfg.o.a x.base.cfg.o.l.length x.base.cfg.o.c, .slice x.base.cfg.l.a x.base.cfg.l.l.length x.base.cfg.l.c, .slice x.base.cfg.w.a x.base.cfg.w.l.length x.base.cfg.w.c, I64 x.size, I64 x.at_, I64 x.tag, .slice x.bytes.a x.bytes.l.length x.bytes.c] := by rw [hW0, hX]; exact Blk.new _ _ _
  have hz0 : W0.heap.size = Y := by rw [hW0, hY]; simp
  obtain ⟨W1, hW1⟩ : ∃ W, W = W0.alloc (.cells #[U8V 0, I64 0, I64 0, I64 0, I64 0, I64 0, I64 0, I64 0, .bool false, .slice none 0 0, I64 0, I64 0, .slice none 0 0, .slice none 0 0, .slice none 0 0, .slice none 0 0, I64 0, I64 0, I64 0, .slice none 0 0] 50) := ⟨_, rfl⟩
  have p1 : Nw W0 W1 := by rw [hW1]; exact (Fr.refl (fun _ => False) _).alloc _
  have y1 : Blk W1 Y 50 #[U8V 0, I64 0, I64 0, I64 0, I64 0, I64 0, I64 0, I64 0, .bool false, .slice none 0 0, I64 0, I64 0, .slice none 0 0, .slice none 0 0, .slice none 0 0, .slice none 0 0, I64 0, I64 0, I64 0, .slice none 0 0] := by rw [hW1, ← hz0]; exact Blk.new _ _ _
  have x1 := x0.fr p1 (fun h => h)
  have Q1 : Nw w W1 := p0.tr p1
  have hXw : w.heap.size ≤ X := by omega
  have hYw : w.heap.size ≤ Y := by omega
  have hXY : X ≠ Y := by omega
  have hXS : ∀ b, Since W1 b → ¬ b = X := fun b hb he => by have := x1.lt; unfold Since at hb; omega
  have hYS : ∀ b, Since W1 b → ¬ b = Y := fun b hb he => by have := y1.lt; unfold Since at hb; omega
  have hS1 : W1.heap.size ≤ W1.heap.size := Nat.le_refl _
  have hSw := Q1.size
  have HX := Lib.hid hX
  have HY := Lib.hid hY
  have HW0 := Lib.hid hW0
  have HW1 := Lib.hid hW1
  have HZ0 := Lib.hid hz0
  clear hX hY hW0 hW1 hz0 x0
  go_enter Tryz.func30, Tryz.ntmps30
  go_upto_region 1 with (fail)
  rw [← HY.out, ← HX.out, ← HW0.out, ← HW1.out]
  have l2 : W1.cell? ⟨X, 9, none⟩ = some (.slice x.ents.a x.ents.l.length x.ents.c) := by simpa using x1.cell 9
  go_wp2_with fail
  refine (lent_ents _ F _ _ _ ((hx.ents.nw Q1).sl) (fun e he => (hx.each e he).nw Q1) hz.each (by have := hz.ents; omega)).mono ?_
  rintro e v2 ⟨A1, c1, ys, rfl, e1, w1, q2⟩
  have Qv2 : Nw w v2 := Q1.tr q2
  have xv2 := x1.fr q2 (fun h => h)
  have yv2 := y1.fr q2 (fun h => h)
  have f2 := xv2.frozen 9
  have g2 : v2.cell? ⟨X, 9, none⟩ = some (.slice x.ents.a x.ents.l.length x.ents.c) := by simpa using xv2.cell 9
  obtain ⟨W2, hW2⟩ : ∃ W, W = v2.setCell ⟨X, 9, none⟩ (.slice A1 x.ents.l.length c1) := ⟨_, rfl⟩
  have x2 : Blk W2 X 50 #[U8V x.kind, I64 x.group, I64 x.src, I64 x.dst, I64 x.term, I64 x.index, I64 x.logt, I64 x.commit, .bool x.ok, .slice A1 x.ents.l.length c1, I64 x.base.index, I64 x.base.term, .slice x.base.cfg.v.a x.base.cfg.v.l.length x.base.cfg.v.c, .slice x.base.cfg.o.a x.base.cfg.o.l.length x.base.cfg.o.c, .slice x.base.cfg.l.a x.base.cfg.l.l.length x.base.cfg.l.c, .slice x.base.cfg.w.a x.base.cfg.w.l.length x.base.cfg.w.c, I64 x.size, I64 x.at_, I64 x.tag, .slice x.bytes.a x.bytes.l.length x.bytes.c] := by rw [hW2]; exact xv2.set_ 9 _
  have m2 : Fr (· = X) v2 W2 := by rw [hW2]; exact (Fr.refl (· = X) _).set1 _ _
  have y2 := yv2.fr m2 (fun h => hXY h.symm)
  have Q2 : Nw w W2 := Qv2.new m2 (fun b hb => by omega)
  have n1 := (w1.mono (F' := Since W1) (fun k hk _ => Nat.le_trans hS1 hk)).fr m2 hXS
  have hS2 : W1.heap.size ≤ W2.heap.size := Nat.le_trans (Nat.le_trans hS1 q2.size) m2.size
  have HW2 := Lib.hid hW2
  clear hW2 l2
  go_upto_region 2 with (fail)
  rw [← HW2.out]
  clear f2 g2
  have l3 : ∀ p u, ([I64 x.base.index, I64 x.base.term, .slice x.base.cfg.v.a x.base.cfg.v.l.length x.base.cfg.v.c, .slice x.base.cfg.o.a x.base.cfg.o.l.length x.base.cfg.o.c, .slice x.base.cfg.l.a x.base.cfg.l.l.length x.base.cfg.l.c, .slice x.base.cfg.w.a x.base.cfg.w.l.length x.base.cfg.w.c] : List Value)[p]? = some u → W2.cell? ⟨X, 10 + p, none⟩ = some u := Blk.cells_in x2 10 6
  go_wp2_with (refine wl_load_cells rfl 47 _ rfl X 10 rfl [I64 x.base.index, I64 x.base.term, .slice x.base.cfg.v.a x.base.cfg.v.l.length x.base.cfg.v.c, .slice x.base.cfg.o.a x.base.cfg.o.l.length x.base.cfg.o.c, .slice x.base.cfg.l.a x.base.cfg.l.l.length x.base.cfg.l.c, .slice x.base.cfg.w.a x.base.cfg.w.l.length x.base.cfg.w.c] _ l3 Tryz.underlying47 rfl (by kernel_rfl) ?_)
  refine (lent_bas _ F x.base (hx.cfg.nw Q2) hz.cfg).mono ?_
  rintro e v3 ⟨g2, rfl, e2, w2, q3⟩
  have Qv3 : Nw w v3 := Q2.tr q3
  have xv3 := x2.fr q3 (fun h => h)
  have yv3 := y2.fr q3 (fun h => h)
  have h3 := Blk.there (l := [U8V x.kind, I64 x.group, I64 x.src, I64 x.dst, I64 x.term, I64 x.index, I64 x.logt, I64 x.commit, .bool x.ok, .slice A1 x.ents.l.length c1, I64 x.base.index, I64 x.base.term, .slice x.base.cfg.v.a x.base.cfg.v.l.length x.base.cfg.v.c, .slice x.base.cfg.o.a x.base.cfg.o.l.length x.base.cfg.o.c, .slice x.base.cfg.l.a x.base.cfg.l.l.length x.base.cfg.l.c, .slice x.base.cfg.w.a x.base.cfg.w.l.length x.base.cfg.w.c, I64 x.size, I64 x.at_, I64 x.tag, .slice x.bytes.a x.bytes.l.length x.bytes.c]) xv3 10 6 (by show 10 + 6 ≤ 20; omega)
  obtain ⟨W3, hW3⟩ : ∃ W, W = v3.setCells X 10 [I64 g2.index, I64 g2.term, .slice g2.cfg.v.a g2.cfg.v.l.length g2.cfg.v.c, .slice g2.cfg.o.a g2.cfg.o.l.length g2.cfg.o.c, .slice g2.cfg.l.a g2.cfg.l.l.length g2.cfg.l.c, .slice g2.cfg.w.a g2.cfg.w.l.length g2.cfg.w.c] := ⟨_, rfl⟩
  have x3 : Blk W3 X 50 #[U8V x.kind, I64 x.group, I64 x.src, I64 x.dst, I64 x.term, I64 x.index, I64 x.logt, I64 x.commit, .bool x.ok, .slice A1 x.ents.l.length c1, I64 g2.index, I64 g2.term, .slice g2.cfg.v.a g2.cfg.v.l.length g2.cfg.v.c, .slice g2.cfg.o.a g2.cfg.o.l.length g2.cfg.o.c, .slice g2.cfg.l.a g2.cfg.l.l.length g2.cfg.l.c, .slice g2.cfg.w.a g2.cfg.w.l.length g2.cfg.w.c, I64 x.size, I64 x.at_, I64 x.tag, .slice x.bytes.a x.bytes.l.length x.bytes.c] := by rw [hW3]; exact Blk.setCells (l := [U8V x.kind, I64 x.group, I64 x.src, I64 x.dst, I64 x.term, I64 x.index, I64 x.logt, I64 x.commit, .bool x.ok, .slice A1 x.ents.l.length c1, I64 x.base.index, I64 x.base.term, .slice x.base.cfg.v.a x.base.cfg.v.l.length x.base.cfg.v.c, .slice x.base.cfg.o.a x.base.cfg.o.l.length x.base.cfg.o.c, .slice x.base.cfg.l.a x.base.cfg.l.l.length x.base.cfg.l.c, .slice x.base.cfg.w.a x.base.cfg.w.l.length x.base.cfg.w.c, I64 x.size, I64 x.at_, I64 x.tag, .slice x.bytes.a x.bytes.l.length x.bytes.c]) xv3 10 [I64 g2.index, I64 g2.term, .slice g2.cfg.v.a g2.cfg.v.l.length g2.cfg.v.c, .slice g2.cfg.o.a g2.cfg.o.l.length g2.cfg.o.c, .slice g2.cfg.l.a g2.cfg.l.l.length g2.cfg.l.c, .slice g2.cfg.w.a g2.cfg.w.l.length g2.cfg.w.c]
  have m3 : Fr (· = X) v3 W3 := by rw [hW3]; exact (Fr.refl (· = X) _).setCells _ _
  have o3 : (#[I64 g2.index, I64 g2.term, .slice g2.cfg.v.a g2.cfg.v.l.length g2.cfg.v.c, .slice g2.cfg.o.a g2.cfg.o.l.length g2.cfg.o.c, .slice g2.cfg.l.a g2.cfg.l.l.length g2.cfg.l.c, .slice g2.cfg.w.a g2.cfg.w.l.length g2.cfg.w.c] : Array Value).all (·.oneCell') = true := by rw [List.all_toArray]; simp only [List.all_cons, List.all_nil]; rfl
  have y3 := yv3.fr m3 (fun h => hXY h.symm)
  have Q3 : Nw w W3 := Qv3.new m3 (fun b hb => by omega)
  have n1 := (n1.nw q3).fr m3 hXS
  have n2 := (w2.mono (F' := Since W1) (fun k hk _ => Nat.le_trans hS2 hk)).fr m3 hXS
  have hS3 : W1.heap.size ≤ W3.heap.size := Nat.le_trans (Nat.le_trans hS2 q3.size) m3.size
  have HW3 := Lib.hid hW3
  clear hW3 l3
  go_upto_region 3 with (refine wpList_store_mid rfl 47 _ _ rfl X 10 #[I64 g2.index, I64 g2.term, .slice g2.cfg.v.a g2.cfg.v.l.length g2.cfg.v.c, .slice g2.cfg.o.a g2.cfg.o.l.length g2.cfg.o.c, .slice g2.cfg.l.a g2.cfg.l.l.length g2.cfg.l.c, .slice g2.cfg.w.a g2.cfg.w.l.length g2.cfg.w.c] rfl rfl h3 (by kernel_rfl) o3 ?_)
  rw [← HW3.out]
  have l4 : W3.cell? ⟨X, 19, none⟩ = some (.slice x.bytes.a x.bytes.l.length x.bytes.c) := by simpa using x3.cell 19
  go_wp2_with fail
  refine (lent_by _ F _ _ _ ((hx.bytes.nw Q3).sl) (by have := hz.bytes; omega)).mono ?_
  rintro e v4 ⟨A3, c3, rfl, w3, q4⟩
  have Qv4 : Nw w v4 := Q3.tr q4
  have xv4 := x3.fr q4 (fun h => h)
  have yv4 := y3.fr q4 (fun h => h)
  have f4 := xv4.frozen 19
  have g4 : v4.cell? ⟨X, 19, none⟩ = some (.slice x.bytes.a x.bytes.l.length x.bytes.c) := by simpa using xv4.cell 19
  obtain ⟨W4, hW4⟩ : ∃ W, W = v4.setCell ⟨X, 19, none⟩ (.slice A3 x.bytes.l.length c3) := ⟨_, rfl⟩
  have x4 : Blk W4 X 50 #[U8V x.kind, I64 x.group, I64 x.src, I64 x.dst, I64 x.term, I64 x.index, I64 x.logt, I64 x.commit, .bool x.ok, .slice A1 x.ents.l.length c1, I64 g2.index, I64 g2.term, .slice g2.cfg.v.a g2.cfg.v.l.length g2.cfg.v.c, .slice g2.cfg.o.a g2.cfg.o.l.length g2.cfg.o.c, .slice g2.cfg.l.a g2.cfg.l.l.length g2.cfg.l.c, .slice g2.cfg.w.a g2.cfg.w.l.length g2.cfg.w.c, I64 x.size, I64 x.at_, I64 x.tag, .slice A3 x.bytes.l.length c3] := by rw [hW4]; exact xv4.set_ 19 _
  have m4 : Fr (· = X) v4 W4 := by rw [hW4]; exact (Fr.refl (· = X) _).set1 _ _
  have y4 := yv4.fr m4 (fun h => hXY h.symm)
  have Q4 : Nw w W4 := Qv4.new m4 (fun b hb => by omega)
  have n1 := (n1.nw q4).fr m4 hXS
  have n2 := (n2.nw q4).fr m4 hXS
  have n3 := (w3.mono (F' := Since W1) (fun k hk _ => Nat.le_trans hS3 hk)).fr m4 hXS
  have hS4 : W1.heap.size ≤ W4.heap.size := Nat.le_trans (Nat.le_trans hS3 q4.size) m4.size
  have HW4 := Lib.hid hW4
  clear hW4 l4
  go_upto_region 4 with (fail)
  rw [← HW4.out]
  clear f4 g4
  have lz : ∀ p u, ([U8V x.kind, I64 x.group, I64 x.src, I64 x.dst, I64 x.term, I64 x.index, I64 x.logt, I64 x.commit, .bool x.ok, .slice A1 x.ents.l.length c1, I64 g2.index, I64 g2.term, .slice g2.cfg.v.a g2.cfg.v.l.length g2.cfg.v.c, .slice g2.cfg.o.a g2.cfg.o.l.length g2.cfg.o.c, .slice g2.cfg.l.a g2.cfg.l.l.length g2.cfg.l.c, .slice g2.cfg.w.a g2.cfg.w.l.length g2.cfg.w.c, I64 x.size, I64 x.at_, I64 x.tag, .slice A3 x.bytes.l.length c3] : List Value)[p]? = some u → W4.cell? ⟨X, 0 + p, none⟩ = some u := Blk.cells_in x4 0 20
  have hz := Blk.there (l := [U8V 0, I64 0, I64 0, I64 0, I64 0, I64 0, I64 0, I64 0, .bool false, .slice none 0 0, I64 0, I64 0, .slice none 0 0, .slice none 0 0, .slice none 0 0, .slice none 0 0, I64 0, I64 0, I64 0, .slice none 0 0]) y4 0 20 (by show 0 + 20 ≤ 20; omega)
  have oz : (#[U8V x.kind, I64 x.group, I64 x.src, I64 x.dst, I64 x.term, I64 x.index, I64 x.logt, I64 x.commit, .bool x.ok, .slice A1 x.ents.l.length c1, I64 g2.index, I64 g2.term, .slice g2.cfg.v.a g2.cfg.v.l.length g2.cfg.v.c, .slice g2.cfg.o.a g2.cfg.o.l.length g2.cfg.o.c, .slice g2.cfg.l.a g2.cfg.l.l.length g2.cfg.l.c, .slice g2.cfg.w.a g2.cfg.w.l.length g2.cfg.w.c, I64 x.size, I64 x.at_, I64 x.tag, .slice A3 x.bytes.l.length c3] : Array Value).all (·.oneCell') = true := by rw [List.all_toArray]; simp only [List.all_cons, List.all_nil]; rfl
  obtain ⟨WZ, hWZ⟩ : ∃ W, W = W4.setCells Y 0 [U8V x.kind, I64 x.group, I64 x.src, I64 x.dst, I64 x.term, I64 x.index, I64 x.logt, I64 x.commit, .bool x.ok, .slice A1 x.ents.l.length c1, I64 g2.index, I64 g2.term, .slice g2.cfg.v.a g2.cfg.v.l.length g2.cfg.v.c, .slice g2.cfg.o.a g2.cfg.o.l.length g2.cfg.o.c, .slice g2.cfg.l.a g2.cfg.l.l.length g2.cfg.l.c, .slice g2.cfg.w.a g2.cfg.w.l.length g2.cfg.w.c, I64 x.size, I64 x.at_, I64 x.tag, .slice A3 x.bytes.l.length c3] := ⟨_, rfl⟩
  have yz : Blk WZ Y 50 #[U8V x.kind, I64 x.group, I64 x.src, I64 x.dst, I64 x.term, I64 x.index, I64 x.logt, I64 x.commit, .bool x.ok, .slice A1 x.ents.l.length c1, I64 g2.index, I64 g2.term, .slice g2.cfg.v.a g2.cfg.v.l.length g2.cfg.v.c, .slice g2.cfg.o.a g2.cfg.o.l.length g2.cfg.o.c, .slice g2.cfg.l.a g2.cfg.l.l.length g2.cfg.l.c, .slice g2.cfg.w.a g2.cfg.w.l.length g2.cfg.w.c, I64 x.size, I64 x.at_, I64 x.tag, .slice A3 x.bytes.l.length c3] := by rw [hWZ]; exact Blk.setCells (l := [U8V 0, I64 0, I64 0, I64 0, I64 0, I64 0, I64 0, I64 0, .bool false, .slice none 0 0, I64 0, I64 0, .slice none 0 0, .slice none 0 0, .slice none 0 0, .slice none 0 0, I64 0, I64 0, I64 0, .slice none 0 0]) y4 0 [U8V x.kind, I64 x.group, I64 x.src, I64 x.dst, I64 x.term, I64 x.index, I64 x.logt, I64 x.commit, .bool x.ok, .slice A1 x.ents.l.length c1, I64 g2.index, I64 g2.term, .slice g2.cfg.v.a g2.cfg.v.l.length g2.cfg.v.c, .slice g2.cfg.o.a g2.cfg.o.l.length g2.cfg.o.c, .slice g2.cfg.l.a g2.cfg.l.l.length g2.cfg.l.c, .slice g2.cfg.w.a g2.cfg.w.l.length g2.cfg.w.c, I64 x.size, I64 x.at_, I64 x.tag, .slice A3 x.bytes.l.length c3]
  have mz : Fr (· = Y) W4 WZ := by rw [hWZ]; exact (Fr.refl (· = Y) _).setCells _ _
  have QZ : Nw w WZ := Q4.new mz (fun b hb => by omega)
  have HWZ := Lib.hid hWZ
  clear hWZ
  have n1 := (n1.fr mz hYS).mono (F' := Since w) (fun k hk _ => Nat.le_trans hSw hk)
  have n2 := (n2.fr mz hYS).mono (F' := Since w) (fun k hk _ => Nat.le_trans hSw hk)
  have n3 := (n3.fr mz hYS).mono (F' := Since w) (fun k hk _ => Nat.le_trans hSw hk)
  have el : ys.length = x.ents.l.length := by have := congrArg List.length e1; simpa using this
  go_wp2_with (first | (refine wl_load_cells rfl 50 _ rfl X 0 rfl [U8V x.kind, I64 x.group, I64 x.src, I64 x.dst, I64 x.term, I64 x.index, I64 x.logt, I64 x.commit, .bool x.ok, .slice A1 x.ents.l.length c1, I64 g2.index, I64 g2.term, .slice g2.cfg.v.a g2.cfg.v.l.length g2.cfg.v.c, .slice g2.cfg.o.a g2.cfg.o.l.length g2.cfg.o.c, .slice g2.cfg.l.a g2.cfg.l.l.length g2.cfg.l.c, .slice g2.cfg.w.a g2.cfg.w.l.length g2.cfg.w.c, I64 x.size, I64 x.at_, I64 x.tag, .slice A3 x.bytes.l.length c3] _ lz Tryz.underlying50 rfl (by kernel_rfl) ?_) | (refine wpList_store_mid rfl 50 _ _ rfl Y 0 #[U8V x.kind, I64 x.group, I64 x.src, I64 x.dst, I64 x.term, I64 x.index, I64 x.logt, I64 x.commit, .bool x.ok, .slice A1 x.ents.l.length c1, I64 g2.index, I64 g2.term, .slice g2.cfg.v.a g2.cfg.v.l.length g2.cfg.v.c, .slice g2.cfg.o.a g2.cfg.o.l.length g2.cfg.o.c, .slice g2.cfg.l.a g2.cfg.l.l.length g2.cfg.l.c, .slice g2.cfg.w.a g2.cfg.w.l.length g2.cfg.w.c, I64 x.size, I64 x.at_, I64 x.tag, .slice A3 x.bytes.l.length c3] rfl rfl hz (by kernel_rfl) oz ?_; rw [← HWZ.out]))
  refine bodyPost_ret (v := .agg #[U8V x.kind, I64 x.group, I64 x.src, I64 x.dst, I64 x.term, I64 x.index, I64 x.logt, I64 x.commit, .bool x.ok, .slice A1 x.ents.l.length c1, I64 g2.index, I64 g2.term, .slice g2.cfg.v.a g2.cfg.v.l.length g2.cfg.v.c, .slice g2.cfg.o.a g2.cfg.o.l.length g2.cfg.o.c, .slice g2.cfg.l.a g2.cfg.l.l.length g2.cfg.l.c, .slice g2.cfg.w.a g2.cfg.w.l.length g2.cfg.w.c, I64 x.size, I64 x.at_, I64 x.tag, .slice A3 x.bytes.l.length c3]) ?_ rfl ?_
  · exact results_cell_row rfl _ _ Y 50 _ (0, 0) _ rfl yz Tryz.underlying50 rfl (by kernel_rfl)
  exact ⟨{ x with ents := ⟨A1, c1, ys⟩, base := g2, bytes := ⟨A3, c3, x.bytes.l⟩ }, by rw [← el], by show (⟨x.kind, x.group, x.src, x.dst, x.term, x.index, x.logt, x.commit, x.ok, ys.map EntM.x, g2.x, x.size, x.at_, x.tag, x.bytes.l⟩ : LetF) = _; rw [e1, e2], ⟨hx.kind, n1, n2, n3⟩, QZ⟩
end Go.Proofs.YtippdjaakcgeoaaGreat

namespace Go.Proofs.YtippdjaakcgeoaaGreat
open Go Go.RowKit
set_option linter.unusedVariables false
set_option linter.unusedSimpArgs false
def lent_letsR (w : World) (g : Nat) (xs : List LetM) (v i : Value) (wr : World) : Prop :=
  ∃ (k : Nat) (ys : List LetM), k ≤ xs.length ∧ i = .int .i64 k ∧ v = .slice (some ⟨g, 0, none⟩) k (xs.length + 12) ∧ ys.map LetM.x = (xs.take k).map LetM.x ∧ Own wr 50 20 (some ⟨g, 0, none⟩) k (xs.length + 12) (letsC ys) ∧ (∀ y ∈ ys, LetLent wr (fun j => Since w j ∧ j ≠ g) y) ∧ Nw w wr
def lent_letsR2 (w : World) (g n : Nat) (ys : List LetM) (v i : Value) (wr : World) : Prop :=
  ∃ k : Nat, k ≤ 12 ∧ i = .int .i64 k ∧ v = .slice (some ⟨g, 0, none⟩) (n + k) (n + 12) ∧ Own wr 50 20 (some ⟨g, 0, none⟩) (n + k) (n + 12) (letsC (ys ++ (List.range k).map (mkLe 1))) ∧ (∀ y ∈ ys, LetLent wr (fun j => Since w j ∧ j ≠ g) y) ∧ Nw w wr
set_option maxRecDepth 100000 in
set_option maxHeartbeats 4000000 in
theorem lent_lets (w : World) (F : Nat → Prop) (A : Option Addr) (c : Nat) (xs : List LetM) (h : Sl w F A (letsC xs)) (e1 : ∀ e ∈ xs, LetIn w F e) (hz : ∀ e ∈ xs, LetSz e) (hsz : xs.length ≤ 10000000) :
    Calls Tryz.prog 29 #[.slice A xs.length c] w fun e w' => ∃ A' c' ys, e = .returned (.slice A' xs.length c') ∧ ys.map LetM.x = xs.map LetM.x ∧ LetsLent w' (Since w) ⟨A', c', ys⟩ ∧ Nw w w' := by
  have HZ := Lib.hid hz
  have E1 := Lib.hid e1
  obtain ⟨n, hn⟩ : ∃ n, xs.length = n := ⟨_, rfl⟩
  obtain ⟨g, hg⟩ : ∃ g, w.heap.size = g := ⟨_, rfl⟩
  rw [hn] at hsz ⊢
  have HN := Lib.hid hn
  have HG := Lib.hid hg
  clear hz e1 hn hg
  go_enter Tryz.func29, Tryz.ntmps29
  go_upto_region 2 with (at_make; refine wl_make0 (size := 20) rfl _ _ _ rfl 256 (.agg #[U8V 0, I64 0, I64 0, I64 0, I64 0, I64 0, I64 0, I64 0, .bool false, .slice none 0 0, I64 0, I64 0, .slice none 0 0, .slice none 0 0, .slice none 0 0, .slice none 0 0, I64 0, I64 0, I64 0, .slice none 0 0]) Tryz.underlying28 info_let .i64 .i64 ((n : Int) + 12) (n + 12) rfl rfl (by omega) (by omega) (by unfold maxLen; omega) ?_; intro w1 ho1 hq1)
  rw [HG.out] at ho1 ⊢
  go_wp2_with fail
  go_loopw [3, 4] (fun v i wr => lent_letsR w g xs v i wr) (fun _ i _ => n - (intOf i).toNat)
  case atStart => exact ⟨0, [], Nat.zero_le _, rfl, by rw [HN.out], rfl, by rw [HN.out]; exact ho1, (by intro y hy; cases hy), hq1⟩
  case round =>
    clear ho1 hq1
    obtain ⟨k, ys, hk, rfl, rfl, ht, ho, hys, hq⟩ := hrel
    have HT := Lib.hid ht
    clear ht
    rw [HN.out] at hk ho ⊢
    have hgw := ho.lt g ((inA_some _ _).2 rfl)
    by_cases hlt : k < n
    · have hlx : k < xs.length := by rw [HN.out]; exact hlt
      obtain ⟨b, o, rfl, _, _, hc⟩ := (h.fr hq (fun _ _ h => h)).let_ hlx
      have hi0 : (k : Int) < (n : Int) := by omega
      have x1 := (E1.out _ (List.getElem_mem hlx)).nw hq
      have z1 := HZ.out _ (List.getElem_mem hlx)
      obtain ⟨x, hx⟩ : ∃ x, xs[k] = x := ⟨_, rfl⟩
      rw [hx] at x1 z1 hc
      have HX := Lib.hid hx
      have HYS := Lib.hid hys
      clear hx hys
      go_wp2_with (refine wl_load_cells rfl 50 _ rfl b (o + k * 20) rfl _ _ hc Tryz.underlying50 rfl (by kernel_rfl) ?_)
      refine (lent_let _ F x x1 z1).mono ?_
      rintro e w1 ⟨y, rfl, ey, iy, q1⟩
      obtain ⟨G, hG⟩ : ∃ G, G = w1.heap.size := ⟨_, rfl⟩
      obtain ⟨V0, hV0⟩ : ∃ V, V = w1.alloc (.cells #[U8V 0, I64 0, I64 0, I64 0, I64 0, I64 0, I64 0, I64 0, .bool false, .slice none 0 0, I64 0, I64 0, .slice none 0 0, .slice none 0 0, .slice none 0 0, .slice none 0 0, I64 0, I64 0, I64 0, .slice none 0 0] 50) := ⟨_, rfl⟩
      have qv0 : Nw w1 V0 := by rw [hV0]; exact (Fr.refl (fun _ => False) w1).alloc _
      have g0 : Blk V0 G 50 #[U8V 0, I64 0, I64 0, I64 0, I64 0, I64 0, I64 0, I64 0, .bool false, .slice none 0 0, I64 0, I64 0, .slice none 0 0, .slice none 0 0, .slice none 0 0, .slice none 0 0, I64 0, I64 0, I64 0, .slice none 0 0] := by rw [hV0, hG]; exact Blk.new _ _ _
      obtain ⟨V1, hV1⟩ : ∃ V, V = V0.setCells G 0 [U8V y.kind, I64 y.group, I64 y.src, I64 y.dst, I64 y.term, I64 y.index, I64 y.logt, I64 y.commit, .bool y.ok, .slice y.ents.a y.ents.l.length y.ents.c, I64 y.base.index, I64 y.base.term, .slice y.base.cfg.v.a y.base.cfg.v.l.length y.base.cfg.v.c, .slice y.base.cfg.o.a y.base.cfg.o.l.length y.base.cfg.o.c, .slice y.base.cfg.l.a y.base.cfg.l.l.length y.base.cfg.l.c, .slice y.base.cfg.w.a y.base.cfg.w.l.length y.base.cfg.w.c, I64 y.size, I64 y.at_, I64 y.tag, .slice y.bytes.a y.bytes.l.length y.bytes.c] := ⟨_, rfl⟩
      have g1 : Blk V1 G 50 #[U8V y.kind, I64 y.group, I64 y.src, I64 y.dst, I64 y.term, I64 y.index, I64 y.logt, I64 y.commit, .bool y.ok, .slice y.ents.a y.ents.l.length y.ents.c, I64 y.base.index, I64 y.base.term, .slice y.base.cfg.v.a y.base.cfg.v.l.length y.base.cfg.v.c, .slice y.base.cfg.o.a y.base.cfg.o.l.length y.base.cfg.o.c, .slice y.base.cfg.l.a y.base.cfg.l.l.length y.base.cfg.l.c, .slice y.base.cfg.w.a y.base.cfg.w.l.length y.base.cfg.w.c, I64 y.size, I64 y.at_, I64 y.tag, .slice y.bytes.a y.bytes.l.length y.bytes.c] := by rw [hV1]; exact Blk.setCells (l := [U8V 0, I64 0, I64 0, I64 0, I64 0, I64 0, I64 0, I64 0, .bool false, .slice none 0 0, I64 0, I64 0, .slice none 0 0, .slice none 0 0, .slice none 0 0, .slice none 0 0, I64 0, I64 0, I64 0, .slice none 0 0]) g0 0 [U8V y.kind, I64 y.group, I64 y.src, I64 y.dst, I64 y.term, I64 y.index, I64 y.logt, I64 y.commit, .bool y.ok, .slice y.ents.a y.ents.l.length y.ents.c, I64 y.base.index, I64 y.base.term, .slice y.base.cfg.v.a y.base.cfg.v.l.length y.base.cfg.v.c, .slice y.base.cfg.o.a y.base.cfg.o.l.length y.base.cfg.o.c, .slice y.base.cfg.l.a y.base.cfg.l.l.length y.base.cfg.l.c, .slice y.base.cfg.w.a y.base.cfg.w.l.length y.base.cfg.w.c, I64 y.size, I64 y.at_, I64 y.tag, .slice y.bytes.a y.bytes.l.length y.bytes.c]
      have m1 : Fr (· = G) V0 V1 := by rw [hV1]; exact (Fr.refl (· = G) _).setCells _ _
      have qv1 : Nw w1 V1 := qv0.new m1 (fun b hb => by omega)
      have hth := Blk.there (l := [U8V 0, I64 0, I64 0, I64 0, I64 0, I64 0, I64 0, I64 0, .bool false, .slice none 0 0, I64 0, I64 0, .slice none 0 0, .slice none 0 0, .slice none 0 0, .slice none 0 0, I64 0, I64 0, I64 0, .slice none 0 0]) g0 0 20 (by show 0 + 20 ≤ 20; omega)
      have hone := letA_one y
      have hcy := letL_cell y
      have HG1 := Lib.hid hG
      have HV0 := Lib.hid hV0
      have HV1 := Lib.hid hV1
      have HEY := Lib.hid ey
      clear hG hV0 hV1 hc m1 g0 qv0 ey
      go_upto_region 6 with (rw [← HG1.out, ← HV0.out]; refine wpList_store_mid rfl 50 _ _ rfl G 0 #[U8V y.kind, I64 y.group, I64 y.src, I64 y.dst, I64 y.term, I64 y.index, I64 y.logt, I64 y.commit, .bool y.ok, .slice y.ents.a y.ents.l.length y.ents.c, I64 y.base.index, I64 y.base.term, .slice y.base.cfg.v.a y.base.cfg.v.l.length y.base.cfg.v.c, .slice y.base.cfg.o.a y.base.cfg.o.l.length y.base.cfg.o.c, .slice y.base.cfg.l.a y.base.cfg.l.l.length y.base.cfg.l.c, .slice y.base.cfg.w.a y.base.cfg.w.l.length y.base.cfg.w.c, I64 y.size, I64 y.at_, I64 y.tag, .slice y.bytes.a y.bytes.l.length y.bytes.c] rfl rfl hth (by kernel_rfl) hone ?_)
      rw [← HV1.out]
      have ho1 := (ho.fr q1 (fun _ _ h => h)).fr qv1 (fun _ _ h => h)
      have sln := sl_new V1 50 [U8V y.kind, I64 y.group, I64 y.src, I64 y.dst, I64 y.term, I64 y.index, I64 y.logt, I64 y.commit, .bool y.ok, .slice y.ents.a y.ents.l.length y.ents.c, I64 y.base.index, I64 y.base.term, .slice y.base.cfg.v.a y.base.cfg.v.l.length y.base.cfg.v.c, .slice y.base.cfg.o.a y.base.cfg.o.l.length y.base.cfg.o.c, .slice y.base.cfg.l.a y.base.cfg.l.l.length y.base.cfg.l.c, .slice y.base.cfg.w.a y.base.cfg.w.l.length y.base.cfg.w.c, I64 y.size, I64 y.at_, I64 y.tag, .slice y.bytes.a y.bytes.l.length y.bytes.c] _ rfl
      have qa : Nw w1 (V1.alloc (.cells #[U8V y.kind, I64 y.group, I64 y.src, I64 y.dst, I64 y.term, I64 y.index, I64 y.logt, I64 y.commit, .bool y.ok, .slice y.ents.a y.ents.l.length y.ents.c, I64 y.base.index, I64 y.base.term, .slice y.base.cfg.v.a y.base.cfg.v.l.length y.base.cfg.v.c, .slice y.base.cfg.o.a y.base.cfg.o.l.length y.base.cfg.o.c, .slice y.base.cfg.l.a y.base.cfg.l.l.length y.base.cfg.l.c, .slice y.base.cfg.w.a y.base.cfg.w.l.length y.base.cfg.w.c, I64 y.size, I64 y.at_, I64 y.tag, .slice y.bytes.a y.bytes.l.length y.bytes.c] 50)) := qv1.alloc _
      have hoa := ho1.alloc (.cells #[U8V y.kind, I64 y.group, I64 y.src, I64 y.dst, I64 y.term, I64 y.index, I64 y.logt, I64 y.commit, .bool y.ok, .slice y.ents.a y.ents.l.length y.ents.c, I64 y.base.index, I64 y.base.term, .slice y.base.cfg.v.a y.base.cfg.v.l.length y.base.cfg.v.c, .slice y.base.cfg.o.a y.base.cfg.o.l.length y.base.cfg.o.c, .slice y.base.cfg.l.a y.base.cfg.l.l.length y.base.cfg.l.c, .slice y.base.cfg.w.a y.base.cfg.w.l.length y.base.cfg.w.c, I64 y.size, I64 y.at_, I64 y.tag, .slice y.bytes.a y.bytes.l.length y.bytes.c] 50)
      obtain ⟨V2, hV2⟩ : ∃ V, V = V1.alloc (.cells #[U8V y.kind, I64 y.group, I64 y.src, I64 y.dst, I64 y.term, I64 y.index, I64 y.logt, I64 y.commit, .bool y.ok, .slice y.ents.a y.ents.l.length y.ents.c, I64 y.base.index, I64 y.base.term, .slice y.base.cfg.v.a y.base.cfg.v.l.length y.base.cfg.v.c, .slice y.base.cfg.o.a y.base.cfg.o.l.length y.base.cfg.o.c, .slice y.base.cfg.l.a y.base.cfg.l.l.length y.base.cfg.l.c, .slice y.base.cfg.w.a y.base.cfg.w.l.length y.base.cfg.w.c, I64 y.size, I64 y.at_, I64 y.tag, .slice y.bytes.a y.bytes.l.length y.bytes.c] 50) := ⟨_, rfl⟩
      rw [← hV2] at sln qa hoa
      have HV2 := Lib.hid hV2
      clear hV2 ho1
      go_wp2_with (first | (refine wpList_load_row rfl 50 _ rfl G rfl 50 _ (0, 0) _ g1 Tryz.underlying50 rfl (by kernel_rfl) ?_) | (at_builtin; rw [← HV2.out]; refine wl_append2 rfl _ _ _ rfl 256 (.agg #[U8V 0, I64 0, I64 0, I64 0, I64 0, I64 0, I64 0, I64 0, .bool false, .slice none 0 0, I64 0, I64 0, .slice none 0 0, .slice none 0 0, .slice none 0 0, .slice none 0 0, I64 0, I64 0, I64 0, .slice none 0 0]) Tryz.underlying28 info_let rfl (by decide) rfl hoa rfl sln rfl hcy (by omega) (by unfold maxLen; omega) ?_; intro B' c' w2 hap))
      rcases hap with ⟨ho4, _, ⟨_, rfl, rfl, hf3⟩ | ⟨hlt9, _⟩⟩
      rotate_left
      · omega
      go_wp2_with fail
      go_roundw
      case rel =>
        have q2 : Nw w w2 := (hq.tr (q1.tr qa)).new hf3 (fun j hj => by rw [(inA_some _ _).1 hj, ← HG.out]; exact Nat.le_refl _)
        refine ⟨k + 1, ys ++ [y], by rw [HN.out]; omega, by go_num, by rw [HN.out], ?_, by rw [letsC_append, letsC_one, HN.out]; exact ho4, fun u hu => ?_, q2⟩
        · rw [List.take_succ_eq_append_getElem hlx, List.map_append, List.map_append, HT.out, HX.out, List.map_singleton, List.map_singleton, HEY.out]
        · rcases List.mem_append.1 hu with hu | hu
          · exact ((((HYS.out u hu).nw q1).nw qa).fr hf3 (fun j hj hj2 => hj.2 ((inA_some _ _).1 hj2)))
          · rw [List.mem_singleton.1 hu]
            refine ((iy.nw qa).mono (F' := fun j => Since w j ∧ j ≠ g) (fun j hj _ => ⟨Nat.le_trans hq.size hj, fun e => by have hj2 : wr.heap.size ≤ j := hj; omega⟩)).fr hf3 (fun j hj hj2 => hj.2 ((inA_some _ _).1 hj2))
      case measure => simp [intOf]; omega
    · obtain rfl : n = k := by omega
      have hT := HT.out
      rw [List.take_of_length_le (by rw [HN.out]; exact Nat.le_refl _)] at hT
      have HT2 := Lib.hid hT
      have HYS := Lib.hid hys
      clear hT HT hys
      go_wp2_with fail
      go_loopw [3, 6] (fun v i wx => lent_letsR2 w g n ys v i wx) (fun _ i _ => 12 - (intOf i).toNat)
      case atStart => exact ⟨0, by omega, rfl, rfl, by simpa using ho, HYS.out, hq⟩
      case round =>
        clear ho hq HYS
        obtain ⟨k, hk, rfl, rfl, ho, hys, hq⟩ := hrel
        have HYS := Lib.hid hys
        clear hys
        by_cases hlt : k < 12
        · have hmk := fun w1 => markLetter_any w1 1 k (by omega) (by omega)
          have HMK := Lib.hid hmk
          have hcm := letL_cell (mkLe 1 k)
          clear hmk
          go_wp2_with fail
          refine (HMK.out _).mono ?_
          rintro e w3 ⟨rfl, q3⟩
          have ho3 := ho.fr q3 (fun _ _ h => h)
          have sln := sl_new w3 50 (letL (mkLe 1 k)) _ rfl
          have hoa := ho3.alloc (.cells (letA (mkLe 1 k)) 50)
          obtain ⟨V2, hV2⟩ : ∃ V, V = w3.alloc (.cells (letA (mkLe 1 k)) 50) := ⟨_, rfl⟩
          have qa : Nw w3 V2 := by rw [hV2]; exact (Fr.refl (fun _ => False) _).alloc _
          rw [← hV2] at sln hoa
          have HV2 := Lib.hid hV2
          clear hV2 ho3
          go_wp2_with (at_builtin; rw [← HV2.out]; refine wl_append2 rfl _ _ _ rfl 256 (.agg #[U8V 0, I64 0, I64 0, I64 0, I64 0, I64 0, I64 0, I64 0, .bool false, .slice none 0 0, I64 0, I64 0, .slice none 0 0, .slice none 0 0, .slice none 0 0, .slice none 0 0, I64 0, I64 0, I64 0, .slice none 0 0]) Tryz.underlying28 info_let rfl (by decide) rfl hoa rfl sln rfl hcm (by omega) (by unfold maxLen; omega) ?_; intro B' c' w2 hap)
          rcases hap with ⟨ho4, _, ⟨_, rfl, rfl, hf3⟩ | ⟨hlt9, _⟩⟩
          rotate_left
          · omega
          go_wp2_with fail
          go_roundw
          case rel =>
            have q2 : Nw w w2 := (hq.tr (q3.tr qa)).new hf3 (fun j hj => by rw [(inA_some _ _).1 hj, ← HG.out]; exact Nat.le_refl _)
            refine ⟨k + 1, by omega, by go_num, by simp [Nat.add_assoc], ?_, fun u hu => ((((HYS.out u hu).nw q3).nw qa).fr hf3 (fun j hj hj2 => hj.2 ((inA_some _ _).1 hj2))), q2⟩
            rw [List.range_succ]
            have e : n + (k + 1) = n + k + 1 := by omega
            rw [e, List.map_append, ← List.append_assoc, letsC_append, List.map_singleton, letsC_one]
            exact ho4
          case measure => simp [intOf]; omega
        · have hk12 : k = 12 := by omega
          subst hk12
          have hs := slice_h (P := Tryz.prog) 28 under_lets 20 size_lets (some ⟨g, 0, none⟩) (n + 12) (n + 12) n (by omega)
          go_wp2_with fail
          go_ret
          have hyl : ys.length = n := by
            have := congrArg List.length HT2.out
            rw [List.length_map, List.length_map, HN.out] at this
            exact this
          refine ⟨some ⟨g, 0, none⟩, n + 12, ys, rfl, HT2.out, ⟨⟨g, rfl, by show n + 12 = ys.length + 12; rw [hyl], by show n + 12 ≤ maxLen; unfold maxLen; omega, by rw [hyl]; exact ho, by show w.heap.size ≤ g; rw [HG.out]; exact Nat.le_refl _⟩, fun y hy => (HYS.out y hy).mono (fun j hj _ => hj.1)⟩, hq⟩
end Go.Proofs.YtippdjaakcgeoaaGreat
