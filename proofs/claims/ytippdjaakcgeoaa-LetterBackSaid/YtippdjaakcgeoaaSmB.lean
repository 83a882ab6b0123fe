/- The statements' kit: entries, letters held against each other. (Printed by gensmb.py.) -/
import Derived.Test.YtippdjaakcgeoaaSmA
import Derived.Test.YtippdjaakcgeoaaQld
namespace Go.Proofs.Ytippdjaakcgeoaa
open Go Go.RowKit
set_option linter.unusedVariables false
set_option linter.unusedSimpArgs false
def same_entsR (w : World) (xs ys : List EntM) (i : Value) (wr : World) : Prop := ∃ k : Nat, i = .int .i64 k ∧ k ≤ xs.length ∧ (xs.take k).map EntM.x = (ys.take k).map EntM.x ∧ Nw w wr
set_option maxRecDepth 100000 in
set_option maxHeartbeats 4000000 in
theorem same_ents (w : World) (F1 F2 : Nat → Prop) (A1 A2 : Option Addr) (c1 c2 : Nat) (xs ys : List EntM) (h1 : Sl w F1 A1 (entsC xs)) (h2 : Sl w F2 A2 (entsC ys)) (e1 : ∀ e ∈ xs, EntIn w F1 e) (e2 : ∀ e ∈ ys, EntIn w F2 e) (hz : ∀ e ∈ xs, EntSz e) (hm1 : xs.length ≤ 1000000000000) :
    Calls Try.prog 68 #[.slice A1 xs.length c1, .slice A2 ys.length c2] w fun e w' => e = .returned (.bool (decide (xs.map EntM.x = ys.map EntM.x))) ∧ Nw w w' := by
  by_cases hl : xs.length = ys.length
  · have hlen : ((xs.length : Int) != (ys.length : Int)) = false := by simp [hl]
    have HL := Lib.hid hl
    have HZ := Lib.hid hz
    have E1 := Lib.hid e1
    have E2 := Lib.hid e2
    clear hl hz e1 e2
    go_enter Try.func68, Try.ntmps68
    go_wp2_with fail
    go_loopw [5] (fun i wr => same_entsR w xs ys i wr) (fun i _ => xs.length - (intOf i).toNat)
    case atStart => exact ⟨0, rfl, Nat.zero_le _, rfl, Fr.refl _ _⟩
    case round =>
      obtain ⟨k, rfl, hk, ht, hq⟩ := hrel
      have HT := Lib.hid ht
      clear ht
      by_cases hlt : k < xs.length
      · have hlt2 : k < ys.length := by have := HL.out; omega
        obtain ⟨b1, o1, rfl, _, _, hc1⟩ := (h1.fr hq (fun _ _ h => h)).ent hlt
        obtain ⟨b2, o2, rfl, _, _, hc2⟩ := (h2.fr hq (fun _ _ h => h)).ent hlt2
        have hi1 : (k : Int) < (xs.length : Int) := by omega
        have hi2 : (k : Int) < (ys.length : Int) := by omega
        have x1 := (E1.out _ (List.getElem_mem hlt)).nw hq
        have x2 := (E2.out _ (List.getElem_mem hlt2)).nw hq
        have z1 := HZ.out _ (List.getElem_mem hlt)
        obtain ⟨x, hx⟩ : ∃ x, xs[k] = x := ⟨_, rfl⟩
        obtain ⟨y, hy⟩ : ∃ y, ys[k] = y := ⟨_, rfl⟩
        rw [hx] at x1 z1 hc1
        rw [hy] at x2 hc2
        have hsm : ∀ m : Later wr, Calls Try.prog 93 #[.agg #[I64 x.term, U8V x.kind, .slice x.cmd.a x.cmd.l.length x.cmd.c, .slice x.cfg.v.a x.cfg.v.l.length x.cfg.v.c, .slice x.cfg.o.a x.cfg.o.l.length x.cfg.o.c, .slice x.cfg.l.a x.cfg.l.l.length x.cfg.l.c, .slice x.cfg.w.a x.cfg.w.l.length x.cfg.w.c], .agg #[I64 y.term, U8V y.kind, .slice y.cmd.a y.cmd.l.length y.cmd.c, .slice y.cfg.v.a y.cfg.v.l.length y.cfg.v.c, .slice y.cfg.o.a y.cfg.o.l.length y.cfg.o.c, .slice y.cfg.l.a y.cfg.l.l.length y.cfg.l.c, .slice y.cfg.w.a y.cfg.w.l.length y.cfg.w.c]] m.at_ fun e w' => e = .returned (.bool (decide (x.x = y.x))) ∧ Nw m.at_ w' := fun m => same_ent _ F1 F2 x y (x1.nw m.nw) (x2.nw m.nw) z1
        obtain ⟨d, hd⟩ : ∃ d, decide (x.x = y.x) = d := ⟨_, rfl⟩
        simp only [hd] at hsm
        have HD := Lib.hid hd
        have HX := Lib.hid hx
        have HY := Lib.hid hy
        have HSM := Lib.hid hsm
        have hC1 := Later.cells hc1
        have hC2 := Later.cells hc2
        have L1 := Lib.hid hC1
        have L2 := Lib.hid hC2
        clear hc1 hc2 hC1 hC2 hd hx hy hsm x1 x2 z1
        go_wp2_with fail
        refine wp_region_later (by kernel_rfl) (by kernel_rfl) ?_
        repeat (first | (refine quiet_load_cells (by rfl) 60 _ rfl b1 (o1 + k * 7) rfl _ _ L1.out Try.underlying60 rfl (by kernel_rfl) ?_; simp only [Act.put, List.setIfInBounds_toArray, List.set_cons_succ, List.set_cons_zero]) | (refine quiet_load_cells (by rfl) 60 _ rfl b2 (o2 + k * 7) rfl _ _ L2.out Try.underlying60 rfl (by kernel_rfl) ?_; simp only [Act.put, List.setIfInBounds_toArray, List.set_cons_succ, List.set_cons_zero]) | go_big_quiet_step ((go_at_call 93; exact Later.call (HSM.out _))))
        refine wpQuiet_later fun w5 q5 => ?_
        cases d with
        | false =>
          go_wp2_with fail
          go_ret
          refine ⟨ret_eq (congrArg Value.bool (decide_eq_false fun h => ?_).symm), hq.tr q5⟩
          have h3 := congrArg (fun l => l[k]?) h
          simp only [List.getElem?_map, List.getElem?_eq_getElem hlt, List.getElem?_eq_getElem hlt2, Option.map_some] at h3
          injection h3 with h3
          rw [HX.out, HY.out] at h3
          exact of_decide_eq_false HD.out h3
        | true =>
          go_wp2_with fail
          go_roundw
          case rel =>
            refine ⟨k + 1, by go_num, by omega, ?_, hq.tr q5⟩
            rw [List.take_succ_eq_append_getElem hlt, List.take_succ_eq_append_getElem hlt2, List.map_append, List.map_append, HT.out, HX.out, HY.out]
            congr 1
            rw [List.map_singleton, List.map_singleton, of_decide_eq_true HD.out]
          case measure => simp [intOf]; omega
      · go_wp2_with fail
        go_ret
        have hx : xs.map EntM.x = ys.map EntM.x := by
          have := HT.out
          rwa [List.take_of_length_le (by omega), List.take_of_length_le (by have := HL.out; omega)] at this
        exact ⟨ret_eq (congrArg Value.bool (decide_eq_true hx).symm), hq⟩
  · have hlen : ((xs.length : Int) != (ys.length : Int)) = true := by simp; omega
    go_enter Try.func68, Try.ntmps68
    go_wp2_with fail
    go_ret
    exact ⟨ret_eq (congrArg Value.bool (decide_eq_false fun h => hl (by have := congrArg List.length h; simpa using this)).symm), Fr.refl _ _⟩
end Go.Proofs.Ytippdjaakcgeoaa
