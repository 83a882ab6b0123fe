/- The statements' kit: copies of rows of entries. (Printed by gencpb.py.) -/
import Derived.Test.YtippdjaakcgeoaaCpA
namespace Go.Proofs.Ytippdjaakcgeoaa
open Go Go.RowKit
set_option linter.unusedVariables false
set_option linter.unusedSimpArgs false
theorem info_ent : (Try.prog.info? 60).map (fun i => (i.zero, i.size, i.bytes)) = some (some (.agg #[I64 0, U8V 0, .slice none 0 0, .slice none 0 0, .slice none 0 0, .slice none 0 0, .slice none 0 0]), 7, 136) := by kernel_rfl
def copy_entsR (w : World) (xs : List EntM) (v i : Value) (wr : World) : Prop :=
  ∃ (k : Nat) (ys : List EntM) (B : Option Addr) (c : Nat), k ≤ xs.length ∧ i = .int .i64 k ∧ v = .slice B k c ∧ ys.map EntM.x = (xs.take k).map EntM.x ∧ Own wr 60 7 B k c (entsC ys) ∧ (∀ y ∈ ys, EntIn wr (fun k => Since w k ∧ ¬ inA B k) y) ∧ Nw w wr ∧ ∀ j, inA B j → w.heap.size ≤ j
set_option maxRecDepth 100000 in
set_option maxHeartbeats 4000000 in
theorem copy_ents (w : World) (F : Nat → Prop) (A : Option Addr) (c : Nat) (xs : List EntM) (h : Sl w F A (entsC xs)) (e1 : ∀ e ∈ xs, EntIn w F e) (hz : ∀ e ∈ xs, EntSz e) (hsz : xs.length ≤ 1000000000) :
    Calls Try.prog 37 #[.slice A xs.length c] w fun e w' => ∃ A' c' ys, e = .returned (.slice A' xs.length c') ∧ ys.map EntM.x = xs.map EntM.x ∧ Own w' 60 7 A' xs.length c' (entsC ys) ∧ (∀ y ∈ ys, EntIn w' (Since w) y) ∧ Nw w w' ∧ ∀ k, inA A' k → w.heap.size ≤ k := by
  have HZ := Lib.hid hz
  have E1 := Lib.hid e1
  clear hz e1
  go_enter Try.func37, Try.ntmps37
  go_wp2_with fail
  go_loopw [3, 4] (fun v i wr => copy_entsR w xs v i wr) (fun _ i _ => xs.length - (intOf i).toNat)
  case atStart => exact ⟨0, [], none, 0, Nat.zero_le _, rfl, rfl, rfl, Own.nil _ _ _, (by intro y hy; cases hy), Fr.refl _ _, fun k hk => (inA_none k hk).elim⟩
  case round =>
    obtain ⟨k, ys, B, c2, hk, rfl, rfl, ht, ho, hys, hq, hB⟩ := hrel
    have HT := Lib.hid ht
    clear ht
    by_cases hlt : k < xs.length
    · obtain ⟨b, o, rfl, _, _, hc⟩ := (h.fr hq (fun _ _ h => h)).ent hlt
      have hi0 : (k : Int) < (xs.length : Int) := by omega
      have x1 := (E1.out _ (List.getElem_mem hlt)).nw hq
      have z1 := HZ.out _ (List.getElem_mem hlt)
      obtain ⟨x, hx⟩ : ∃ x, xs[k] = x := ⟨_, rfl⟩
      rw [hx] at x1 z1 hc
      have HX := Lib.hid hx
      have HYS := Lib.hid hys
      clear hx hys
      go_wp2_with (first | (refine wl_load_cells rfl 60 _ rfl b (o + k * 7) rfl _ _ hc Try.underlying60 rfl (by kernel_rfl) ?_) | (go_at_call 70; refine (copy_ent _ F x x1 z1).mono ?_; rintro e w1 ⟨y, rfl, ey, iy, q1⟩) | (at_builtin; refine wl_append2 rfl _ _ _ rfl 136 (.agg #[I64 0, U8V 0, .slice none 0 0, .slice none 0 0, .slice none 0 0, .slice none 0 0, .slice none 0 0]) Try.underlying32 info_ent rfl (by decide) rfl (((ho.fr q1 (fun _ _ h => h)).alloc _).alloc _) rfl (sl_new (w1.alloc (.cells #[I64 y.term, U8V y.kind, .slice y.cmd.a y.cmd.l.length y.cmd.c, .slice y.cfg.v.a y.cfg.v.l.length y.cfg.v.c, .slice y.cfg.o.a y.cfg.o.l.length y.cfg.o.c, .slice y.cfg.l.a y.cfg.l.l.length y.cfg.l.c, .slice y.cfg.w.a y.cfg.w.l.length y.cfg.w.c] 60)) 60 [I64 y.term, U8V y.kind, .slice y.cmd.a y.cmd.l.length y.cmd.c, .slice y.cfg.v.a y.cfg.v.l.length y.cfg.v.c, .slice y.cfg.o.a y.cfg.o.l.length y.cfg.o.c, .slice y.cfg.l.a y.cfg.l.l.length y.cfg.l.c, .slice y.cfg.w.a y.cfg.w.l.length y.cfg.w.c] _ (by simp)) rfl (entL_cell y) (by omega) (by unfold maxLen; omega) ?_; intro B' c' w2 hap))
      go_roundw
      case rel =>
        have qa : Nw w1 ((w1.alloc (.cells #[I64 y.term, U8V y.kind, .slice y.cmd.a y.cmd.l.length y.cmd.c, .slice y.cfg.v.a y.cfg.v.l.length y.cfg.v.c, .slice y.cfg.o.a y.cfg.o.l.length y.cfg.o.c, .slice y.cfg.l.a y.cfg.l.l.length y.cfg.l.c, .slice y.cfg.w.a y.cfg.w.l.length y.cfg.w.c] 60)).alloc (.cells #[I64 y.term, U8V y.kind, .slice y.cmd.a y.cmd.l.length y.cmd.c, .slice y.cfg.v.a y.cfg.v.l.length y.cfg.v.c, .slice y.cfg.o.a y.cfg.o.l.length y.cfg.o.c, .slice y.cfg.l.a y.cfg.l.l.length y.cfg.l.c, .slice y.cfg.w.a y.cfg.w.l.length y.cfg.w.c] 60)) := ((Fr.refl (fun _ => False) w1).alloc _).alloc _
        obtain ⟨o2, q2, n2⟩ := hap.newOwn (((hq.tr q1).alloc _).alloc _) hB
        have hfr := hap.fr
        have ho1 := ((ho.fr q1 (fun _ _ h => h)).alloc (.cells #[I64 y.term, U8V y.kind, .slice y.cmd.a y.cmd.l.length y.cmd.c, .slice y.cfg.v.a y.cfg.v.l.length y.cfg.v.c, .slice y.cfg.o.a y.cfg.o.l.length y.cfg.o.c, .slice y.cfg.l.a y.cfg.l.l.length y.cfg.l.c, .slice y.cfg.w.a y.cfg.w.l.length y.cfg.w.c] 60)).alloc (.cells #[I64 y.term, U8V y.kind, .slice y.cmd.a y.cmd.l.length y.cmd.c, .slice y.cfg.v.a y.cfg.v.l.length y.cfg.v.c, .slice y.cfg.o.a y.cfg.o.l.length y.cfg.o.c, .slice y.cfg.l.a y.cfg.l.l.length y.cfg.l.c, .slice y.cfg.w.a y.cfg.w.l.length y.cfg.w.c] 60)
        refine ⟨k + 1, ys ++ [y], B', c', by omega, by go_num, rfl, ?_, by rw [entsC_append, entsC_one]; exact o2, fun u hu => ?_, q2, n2⟩
        · rw [List.take_succ_eq_append_getElem hlt, List.map_append, List.map_append, HT.out, HX.out, List.map_singleton, List.map_singleton, ey]
        · have hin : ∀ j, inA B' j → inA B j ∨ j = ((w1.alloc (.cells #[I64 y.term, U8V y.kind, .slice y.cmd.a y.cmd.l.length y.cmd.c, .slice y.cfg.v.a y.cfg.v.l.length y.cfg.v.c, .slice y.cfg.o.a y.cfg.o.l.length y.cfg.o.c, .slice y.cfg.l.a y.cfg.l.l.length y.cfg.l.c, .slice y.cfg.w.a y.cfg.w.l.length y.cfg.w.c] 60)).alloc (.cells #[I64 y.term, U8V y.kind, .slice y.cmd.a y.cmd.l.length y.cmd.c, .slice y.cfg.v.a y.cfg.v.l.length y.cfg.v.c, .slice y.cfg.o.a y.cfg.o.l.length y.cfg.o.c, .slice y.cfg.l.a y.cfg.l.l.length y.cfg.l.c, .slice y.cfg.w.a y.cfg.w.l.length y.cfg.w.c] 60)).heap.size := hap.inA_
          have hBl : ∀ j, inA B j → j < wr.heap.size := ho.lt
          have hs1 := q1.size
          have hsa := qa.size
          rcases List.mem_append.1 hu with hu | hu
          · have i1 := ((HYS.out u hu).nw q1).nw qa
            refine (i1.mono (F' := fun k => (Since w k ∧ ¬ inA B k) ∧ k < ((w1.alloc (.cells #[I64 y.term, U8V y.kind, .slice y.cmd.a y.cmd.l.length y.cmd.c, .slice y.cfg.v.a y.cfg.v.l.length y.cfg.v.c, .slice y.cfg.o.a y.cfg.o.l.length y.cfg.o.c, .slice y.cfg.l.a y.cfg.l.l.length y.cfg.l.c, .slice y.cfg.w.a y.cfg.w.l.length y.cfg.w.c] 60)).alloc (.cells #[I64 y.term, U8V y.kind, .slice y.cmd.a y.cmd.l.length y.cmd.c, .slice y.cfg.v.a y.cfg.v.l.length y.cfg.v.c, .slice y.cfg.o.a y.cfg.o.l.length y.cfg.o.c, .slice y.cfg.l.a y.cfg.l.l.length y.cfg.l.c, .slice y.cfg.w.a y.cfg.w.l.length y.cfg.w.c] 60)).heap.size) (fun k hk hl => ⟨hk, hl⟩)).fr hfr (fun k hk => hk.1.2) |>.mono (fun k hk _ => ⟨hk.1.1, fun hj => ?_⟩)
            rcases hin k hj with h | h
            · exact hk.1.2 h
            · omega
          · rw [List.mem_singleton.1 hu]
            have i1 := (iy.nw qa).mono (F' := fun k => Since wr k ∧ k < ((w1.alloc (.cells #[I64 y.term, U8V y.kind, .slice y.cmd.a y.cmd.l.length y.cmd.c, .slice y.cfg.v.a y.cfg.v.l.length y.cfg.v.c, .slice y.cfg.o.a y.cfg.o.l.length y.cfg.o.c, .slice y.cfg.l.a y.cfg.l.l.length y.cfg.l.c, .slice y.cfg.w.a y.cfg.w.l.length y.cfg.w.c] 60)).alloc (.cells #[I64 y.term, U8V y.kind, .slice y.cmd.a y.cmd.l.length y.cmd.c, .slice y.cfg.v.a y.cfg.v.l.length y.cfg.v.c, .slice y.cfg.o.a y.cfg.o.l.length y.cfg.o.c, .slice y.cfg.l.a y.cfg.l.l.length y.cfg.l.c, .slice y.cfg.w.a y.cfg.w.l.length y.cfg.w.c] 60)).heap.size) (fun k hk hl => ⟨hk, hl⟩)
            refine (i1.fr hfr (fun k hk hj => by have := hBl k hj; have := hk.1; unfold Since at this; omega)).mono (fun k hk _ => ⟨Nat.le_trans hq.size hk.1, fun hj => ?_⟩)
            rcases hin k hj with h | h
            · have := hBl k h; have := hk.1; unfold Since at this; omega
            · omega
      case measure => simp [intOf]; omega
    · obtain rfl : xs.length = k := by omega
      go_wp2_with fail
      go_ret
      have hT := HT.out
      rw [List.take_of_length_le (Nat.le_refl _)] at hT
      exact ⟨B, c2, ys, rfl, hT, ho, fun y hy => (hys y hy).mono (fun k hk _ => hk.1), hq, hB⟩
end Go.Proofs.Ytippdjaakcgeoaa
