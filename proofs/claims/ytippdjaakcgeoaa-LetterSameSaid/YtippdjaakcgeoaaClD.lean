/- Letters held against each other: slices.EqualFunc of entries. (Printed by gencld.py.) -/
import Derived.Test.YtippdjaakcgeoaaClC
import Derived.Test.YtippdjaakcgeoaaSmB
namespace Go.Proofs.Ytippdjaakcgeoaa
open Go Go.RowKit
set_option linter.unusedVariables false
set_option linter.unusedSimpArgs false
def lentsR (w : World) (xs ys : List EntM) (i : Value) (wr : World) : Prop := ∃ k : Nat, i = .int .i64 k ∧ k ≤ xs.length ∧ (xs.take k).map EntM.x = (ys.take k).map EntM.x ∧ Nw w wr
set_option maxRecDepth 100000 in
set_option maxHeartbeats 8000000 in
theorem lents_any (w : World) (F1 F2 : Nat → Prop) (A1 A2 : Option Addr) (c1 c2 : Nat) (xs ys : List EntM) (h1 : Sl w F1 A1 (entsC xs)) (h2 : Sl w F2 A2 (entsC ys)) (e1 : ∀ e ∈ xs, EntIn w F1 e) (e2 : ∀ e ∈ ys, EntIn w F2 e) (hz : ∀ e ∈ xs, EntSz e) (hm1 : xs.length ≤ 1000000000000) :
    Calls Try.prog 43 #[.slice A1 xs.length c1, .slice A2 ys.length c2, .func (.func 44) #[] #[]] w fun e w' => e = .returned (.bool (decide (xs.map EntM.x = ys.map EntM.x))) ∧ Nw w w' := by
  by_cases hl : xs.length = ys.length
  · have hlen : ((xs.length : Int) != (ys.length : Int)) = false := by simp [hl]
    have HL := Lib.hid hl
    have HZ := Lib.hid hz
    have E1 := Lib.hid e1
    have E2 := Lib.hid e2
    clear hl hz e1 e2
    go_enter Try.func43, Try.ntmps43
    go_wp2_with fail
    go_loopw [17] (fun i wr => lentsR w xs ys i wr) (fun i _ => xs.length - (intOf i).toNat)
    case atStart => exact ⟨0, rfl, Nat.zero_le _, rfl, Fr.refl _ _⟩
    case round =>
      obtain ⟨k, rfl, hk, ht, hq⟩ := hrel
      have HT := Lib.hid ht
      clear ht
      by_cases hlt : k < xs.length
      · have hlt2 : k < ys.length := by have := HL.out; omega
        obtain ⟨b1, o1, rfl, _, _, hc1⟩ := (h1.fr hq (fun _ _ h => h)).ent hlt
        obtain ⟨b2, o2, rfl, _, _, hc2⟩ := (h2.fr hq (fun _ _ h => h)).ent hlt2
        have hi1 : (k : Int) < (xs.length : Int) := by omega
        have hi2 : (k : Int) < (ys.length : Int) := by omega
        have x1 := (E1.out _ (List.getElem_mem hlt)).nw hq
        have x2 := (E2.out _ (List.getElem_mem hlt2)).nw hq
        have z1 := HZ.out _ (List.getElem_mem hlt)
        obtain ⟨x, hx⟩ : ∃ x, xs[k] = x := ⟨_, rfl⟩
        obtain ⟨y, hy⟩ : ∃ y, ys[k] = y := ⟨_, rfl⟩
        rw [hx] at x1 z1 hc1
        rw [hy] at x2 hc2
        obtain ⟨G, hG⟩ : ∃ G, G = wr.heap.size := ⟨_, rfl⟩
        obtain ⟨V0, hV0⟩ : ∃ V, V = wr.alloc (.cells #[I64 0, U8V 0, .slice none 0 0, .slice none 0 0, .slice none 0 0, .slice none 0 0, .slice none 0 0] 60) := ⟨_, rfl⟩
        have qv0 : Nw wr V0 := by rw [hV0]; exact (Fr.refl (fun _ => False) wr).alloc _
        have g0 : Blk V0 G 60 #[I64 0, U8V 0, .slice none 0 0, .slice none 0 0, .slice none 0 0, .slice none 0 0, .slice none 0 0] := by rw [hV0, hG]; exact Blk.new _ _ _
        obtain ⟨V1, hV1⟩ : ∃ V, V = V0.setCells G 0 [I64 x.term, U8V x.kind, .slice x.cmd.a x.cmd.l.length x.cmd.c, .slice x.cfg.v.a x.cfg.v.l.length x.cfg.v.c, .slice x.cfg.o.a x.cfg.o.l.length x.cfg.o.c, .slice x.cfg.l.a x.cfg.l.l.length x.cfg.l.c, .slice x.cfg.w.a x.cfg.w.l.length x.cfg.w.c] := ⟨_, rfl⟩
        have g1 : Blk V1 G 60 #[I64 x.term, U8V x.kind, .slice x.cmd.a x.cmd.l.length x.cmd.c, .slice x.cfg.v.a x.cfg.v.l.length x.cfg.v.c, .slice x.cfg.o.a x.cfg.o.l.length x.cfg.o.c, .slice x.cfg.l.a x.cfg.l.l.length x.cfg.l.c, .slice x.cfg.w.a x.cfg.w.l.length x.cfg.w.c] := by rw [hV1]; exact Blk.setCells (l := [I64 0, U8V 0, .slice none 0 0, .slice none 0 0, .slice none 0 0, .slice none 0 0, .slice none 0 0]) g0 0 [I64 x.term, U8V x.kind, .slice x.cmd.a x.cmd.l.length x.cmd.c, .slice x.cfg.v.a x.cfg.v.l.length x.cfg.v.c, .slice x.cfg.o.a x.cfg.o.l.length x.cfg.o.c, .slice x.cfg.l.a x.cfg.l.l.length x.cfg.l.c, .slice x.cfg.w.a x.cfg.w.l.length x.cfg.w.c]
        have m1 : Fr (· = G) V0 V1 := by rw [hV1]; exact (Fr.refl (· = G) _).setCells _ _
        have qv1 : Nw wr V1 := qv0.new m1 (fun b hb => by omega)
        have th1 := Blk.there (l := [I64 0, U8V 0, .slice none 0 0, .slice none 0 0, .slice none 0 0, .slice none 0 0, .slice none 0 0]) g0 0 7 (by show 0 + 7 ≤ 7; omega)
        have one1 := entA_one x
        obtain ⟨H, hH⟩ : ∃ H, H = V1.heap.size := ⟨_, rfl⟩
        obtain ⟨V2, hV2⟩ : ∃ V, V = V1.alloc (.cells #[I64 0, U8V 0, .slice none 0 0, .slice none 0 0, .slice none 0 0, .slice none 0 0, .slice none 0 0] 60) := ⟨_, rfl⟩
        have qv2 : Nw V1 V2 := by rw [hV2]; exact (Fr.refl (fun _ => False) V1).alloc _
        have g2 : Blk V2 H 60 #[I64 0, U8V 0, .slice none 0 0, .slice none 0 0, .slice none 0 0, .slice none 0 0, .slice none 0 0] := by rw [hV2, hH]; exact Blk.new _ _ _
        obtain ⟨V3, hV3⟩ : ∃ V, V = V2.setCells H 0 [I64 y.term, U8V y.kind, .slice y.cmd.a y.cmd.l.length y.cmd.c, .slice y.cfg.v.a y.cfg.v.l.length y.cfg.v.c, .slice y.cfg.o.a y.cfg.o.l.length y.cfg.o.c, .slice y.cfg.l.a y.cfg.l.l.length y.cfg.l.c, .slice y.cfg.w.a y.cfg.w.l.length y.cfg.w.c] := ⟨_, rfl⟩
        have g3 : Blk V3 H 60 #[I64 y.term, U8V y.kind, .slice y.cmd.a y.cmd.l.length y.cmd.c, .slice y.cfg.v.a y.cfg.v.l.length y.cfg.v.c, .slice y.cfg.o.a y.cfg.o.l.length y.cfg.o.c, .slice y.cfg.l.a y.cfg.l.l.length y.cfg.l.c, .slice y.cfg.w.a y.cfg.w.l.length y.cfg.w.c] := by rw [hV3]; exact Blk.setCells (l := [I64 0, U8V 0, .slice none 0 0, .slice none 0 0, .slice none 0 0, .slice none 0 0, .slice none 0 0]) g2 0 [I64 y.term, U8V y.kind, .slice y.cmd.a y.cmd.l.length y.cmd.c, .slice y.cfg.v.a y.cfg.v.l.length y.cfg.v.c, .slice y.cfg.o.a y.cfg.o.l.length y.cfg.o.c, .slice y.cfg.l.a y.cfg.l.l.length y.cfg.l.c, .slice y.cfg.w.a y.cfg.w.l.length y.cfg.w.c]
        have m2 : Fr (· = H) V2 V3 := by rw [hV3]; exact (Fr.refl (· = H) _).setCells _ _
        have qv3 : Nw V1 V3 := qv2.new m2 (fun b hb => by omega)
        have th2 := Blk.there (l := [I64 0, U8V 0, .slice none 0 0, .slice none 0 0, .slice none 0 0, .slice none 0 0, .slice none 0 0]) g2 0 7 (by show 0 + 7 ≤ 7; omega)
        have one2 := entA_one y
        have QV : Nw wr V3 := qv1.tr qv3
        have l1 := Blk.cells_at (l := [I64 x.term, U8V x.kind, .slice x.cmd.a x.cmd.l.length x.cmd.c, .slice x.cfg.v.a x.cfg.v.l.length x.cfg.v.c, .slice x.cfg.o.a x.cfg.o.l.length x.cfg.o.c, .slice x.cfg.l.a x.cfg.l.l.length x.cfg.l.c, .slice x.cfg.w.a x.cfg.w.l.length x.cfg.w.c]) (g1.fr qv3 (fun h => h)) 0
        have l2 := Blk.cells_at (l := [I64 y.term, U8V y.kind, .slice y.cmd.a y.cmd.l.length y.cmd.c, .slice y.cfg.v.a y.cfg.v.l.length y.cfg.v.c, .slice y.cfg.o.a y.cfg.o.l.length y.cfg.o.c, .slice y.cfg.l.a y.cfg.l.l.length y.cfg.l.c, .slice y.cfg.w.a y.cfg.w.l.length y.cfg.w.c]) g3 0
        have hc2 := Later.cells hc2 V1 ⟨⟨V1, qv1⟩, rfl⟩
        have hsm : Calls Try.prog 44 #[.agg #[I64 x.term, U8V x.kind, .slice x.cmd.a x.cmd.l.length x.cmd.c, .slice x.cfg.v.a x.cfg.v.l.length x.cfg.v.c, .slice x.cfg.o.a x.cfg.o.l.length x.cfg.o.c, .slice x.cfg.l.a x.cfg.l.l.length x.cfg.l.c, .slice x.cfg.w.a x.cfg.w.l.length x.cfg.w.c], .agg #[I64 y.term, U8V y.kind, .slice y.cmd.a y.cmd.l.length y.cmd.c, .slice y.cfg.v.a y.cfg.v.l.length y.cfg.v.c, .slice y.cfg.o.a y.cfg.o.l.length y.cfg.o.c, .slice y.cfg.l.a y.cfg.l.l.length y.cfg.l.c, .slice y.cfg.w.a y.cfg.w.l.length y.cfg.w.c]] V3 fun e w' => e = .returned (.bool (decide (x.x = y.x))) ∧ Nw V3 w' := lentry_any _ F1 F2 x y (x1.nw QV) (x2.nw QV) z1
        obtain ⟨d, hd⟩ : ∃ d, decide (x.x = y.x) = d := ⟨_, rfl⟩
        simp only [hd] at hsm
        have HD := Lib.hid hd
        have HX := Lib.hid hx
        have HY := Lib.hid hy
        have HSM := Lib.hid hsm
        have HG := Lib.hid hG
        have HV0 := Lib.hid hV0
        have HV1 := Lib.hid hV1
        have HH := Lib.hid hH
        have HV2 := Lib.hid hV2
        have HV3 := Lib.hid hV3
        clear hd hx hy hsm x1 x2 z1 hG hV0 hV1 hH hV2 hV3 m1 m2 g0 g1 g2 g3 qv0 qv2
        go_upto_region 6 with (first | (refine wl_load_cells rfl 60 _ rfl b1 (o1 + k * 7) rfl [I64 x.term, U8V x.kind, .slice x.cmd.a x.cmd.l.length x.cmd.c, .slice x.cfg.v.a x.cfg.v.l.length x.cfg.v.c, .slice x.cfg.o.a x.cfg.o.l.length x.cfg.o.c, .slice x.cfg.l.a x.cfg.l.l.length x.cfg.l.c, .slice x.cfg.w.a x.cfg.w.l.length x.cfg.w.c] _ hc1 Try.underlying60 rfl (by kernel_rfl) ?_) | (rw [← HG.out, ← HV0.out]; refine wpList_store_mid rfl 60 _ _ rfl G 0 #[I64 x.term, U8V x.kind, .slice x.cmd.a x.cmd.l.length x.cmd.c, .slice x.cfg.v.a x.cfg.v.l.length x.cfg.v.c, .slice x.cfg.o.a x.cfg.o.l.length x.cfg.o.c, .slice x.cfg.l.a x.cfg.l.l.length x.cfg.l.c, .slice x.cfg.w.a x.cfg.w.l.length x.cfg.w.c] rfl rfl th1 (by kernel_rfl) one1 ?_))
        rw [← HV1.out]
        go_upto_region 7 with (first | (refine wl_load_cells rfl 60 _ rfl b2 (o2 + k * 7) rfl [I64 y.term, U8V y.kind, .slice y.cmd.a y.cmd.l.length y.cmd.c, .slice y.cfg.v.a y.cfg.v.l.length y.cfg.v.c, .slice y.cfg.o.a y.cfg.o.l.length y.cfg.o.c, .slice y.cfg.l.a y.cfg.l.l.length y.cfg.l.c, .slice y.cfg.w.a y.cfg.w.l.length y.cfg.w.c] _ hc2 Try.underlying60 rfl (by kernel_rfl) ?_) | (rw [← HH.out, ← HV2.out]; refine wpList_store_mid rfl 60 _ _ rfl H 0 #[I64 y.term, U8V y.kind, .slice y.cmd.a y.cmd.l.length y.cmd.c, .slice y.cfg.v.a y.cfg.v.l.length y.cfg.v.c, .slice y.cfg.o.a y.cfg.o.l.length y.cfg.o.c, .slice y.cfg.l.a y.cfg.l.l.length y.cfg.l.c, .slice y.cfg.w.a y.cfg.w.l.length y.cfg.w.c] rfl rfl th2 (by kernel_rfl) one2 ?_))
        rw [← HV3.out]
        cases d with
        | false =>
          go_wp2_with (first | (refine wl_load_cells rfl 60 _ rfl G 0 rfl [I64 x.term, U8V x.kind, .slice x.cmd.a x.cmd.l.length x.cmd.c, .slice x.cfg.v.a x.cfg.v.l.length x.cfg.v.c, .slice x.cfg.o.a x.cfg.o.l.length x.cfg.o.c, .slice x.cfg.l.a x.cfg.l.l.length x.cfg.l.c, .slice x.cfg.w.a x.cfg.w.l.length x.cfg.w.c] _ l1 Try.underlying60 rfl (by kernel_rfl) ?_) | (refine wl_load_cells rfl 60 _ rfl H 0 rfl [I64 y.term, U8V y.kind, .slice y.cmd.a y.cmd.l.length y.cmd.c, .slice y.cfg.v.a y.cfg.v.l.length y.cfg.v.c, .slice y.cfg.o.a y.cfg.o.l.length y.cfg.o.c, .slice y.cfg.l.a y.cfg.l.l.length y.cfg.l.c, .slice y.cfg.w.a y.cfg.w.l.length y.cfg.w.c] _ l2 Try.underlying60 rfl (by kernel_rfl) ?_) | (go_at_call 44; refine HSM.out.mono ?_; rintro e w5 ⟨rfl, q5'⟩))
          have q5 := QV.tr q5'
          go_ret
          refine ⟨ret_eq (congrArg Value.bool (decide_eq_false fun h => ?_).symm), hq.tr q5⟩
          have h3 := congrArg (fun l => l[k]?) h
          simp only [List.getElem?_map, List.getElem?_eq_getElem hlt, List.getElem?_eq_getElem hlt2, Option.map_some] at h3
          injection h3 with h3
          rw [HX.out, HY.out] at h3
          exact of_decide_eq_false HD.out h3
        | true =>
          go_wp2_with (first | (refine wl_load_cells rfl 60 _ rfl G 0 rfl [I64 x.term, U8V x.kind, .slice x.cmd.a x.cmd.l.length x.cmd.c, .slice x.cfg.v.a x.cfg.v.l.length x.cfg.v.c, .slice x.cfg.o.a x.cfg.o.l.length x.cfg.o.c, .slice x.cfg.l.a x.cfg.l.l.length x.cfg.l.c, .slice x.cfg.w.a x.cfg.w.l.length x.cfg.w.c] _ l1 Try.underlying60 rfl (by kernel_rfl) ?_) | (refine wl_load_cells rfl 60 _ rfl H 0 rfl [I64 y.term, U8V y.kind, .slice y.cmd.a y.cmd.l.length y.cmd.c, .slice y.cfg.v.a y.cfg.v.l.length y.cfg.v.c, .slice y.cfg.o.a y.cfg.o.l.length y.cfg.o.c, .slice y.cfg.l.a y.cfg.l.l.length y.cfg.l.c, .slice y.cfg.w.a y.cfg.w.l.length y.cfg.w.c] _ l2 Try.underlying60 rfl (by kernel_rfl) ?_) | (go_at_call 44; refine HSM.out.mono ?_; rintro e w5 ⟨rfl, q5'⟩))
          have q5 := QV.tr q5'
          go_roundw
          case rel =>
            refine ⟨k + 1, by go_num, by omega, ?_, hq.tr q5⟩
            rw [List.take_succ_eq_append_getElem hlt, List.take_succ_eq_append_getElem hlt2, List.map_append, List.map_append, HT.out, HX.out, HY.out]
            congr 1
            rw [List.map_singleton, List.map_singleton, of_decide_eq_true HD.out]
          case measure => simp [intOf]; omega
      · go_wp2_with fail
        go_ret
        have hx : xs.map EntM.x = ys.map EntM.x := by
          have := HT.out
          rwa [List.take_of_length_le (by omega), List.take_of_length_le (by have := HL.out; omega)] at this
        exact ⟨ret_eq (congrArg Value.bool (decide_eq_true hx).symm), hq⟩
  · have hlen : ((xs.length : Int) != (ys.length : Int)) = true := by simp; omega
    go_enter Try.func43, Try.ntmps43
    go_wp2_with fail
    go_ret
    exact ⟨ret_eq (congrArg Value.bool (decide_eq_false fun h => hl (by have := congrArg List.length h; simpa using this)).symm), Fr.refl _ _⟩
end Go.Proofs.Ytippdjaakcgeoaa
