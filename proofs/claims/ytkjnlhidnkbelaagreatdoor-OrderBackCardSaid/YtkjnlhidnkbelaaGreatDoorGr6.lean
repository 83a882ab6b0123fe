/- Several texts, laid one behind the other by merge.py: OdQ OdS. -/
import Derived.Test.YtkjnlhidnkbelaaGreatDoorOdP
/- Orders: two of them held against each other. -/
namespace Go.Proofs.YtkjnlhidnkbelaaGreatDoor
open Go Go.RowKit

set_option maxRecDepth 100000 in
theorem eqActs_any (w : World) (F1 F2 : Nat → Prop) (A1 A2 : Option Addr) (c1 c2 : Nat) (a b : List ActT) (h1 : Sl w F1 A1 (actsCells a)) (h2 : Sl w F2 A2 (actsCells b)) (hl : a.length ≤ 1000000000) :
    Calls Tryz.prog 149 #[.slice A1 a.length c1, .slice A2 b.length c2] w fun e w' => e = .returned (.bool (decide (a = b))) ∧ Nw w w' := by
  by_cases hlen : a.length = b.length
  · obtain ⟨n, hn⟩ : ∃ n, n = a.length := ⟨_, rfl⟩
    have hnb : n = b.length := hn.trans hlen
    rw [← hlen, ← hn]
    have HA := Lib.hid hn
    have HB := Lib.hid hnb
    have hl : n ≤ 1000000000 := by omega
    clear hn hnb hlen
    go_enter Tryz.func149, Tryz.ntmps149
    go_wp2_with fail
    go_loopw [13] (fun i wx => SameAcTo w a b i wx) (fun i _ => n - (intOf i).toNat)
    case atStart => exact ⟨0, Nat.zero_le _, rfl, fun _ _ _ h => by omega, Fr.refl _ _⟩
    case round =>
      obtain ⟨k, hk, rfl, hok, hq⟩ := hrel
      have HK := Lib.hid hok
      have hkn : k ≤ n := by rw [HA.out]; exact hk
      clear hok hk
      by_cases hlt : k < n
      · have hka : k < a.length := by rw [← HA.out]; exact hlt
        have hkb : k < b.length := by rw [← HB.out]; exact hlt
        obtain ⟨b1, o1, rfl, _, x1, x2, x3, x4⟩ := (h1.fr hq (fun _ _ h => h)).act hka
        obtain ⟨b2, o2, rfl, _, y1, y2, y3, y4⟩ := (h2.fr hq (fun _ _ h => h)).act hkb
        have hne := fun w => act_neq w a[k] b[k]
        obtain ⟨p, hp⟩ : ∃ p, decide (a[k] = b[k]) = p := ⟨_, rfl⟩
        rw [hp] at hne
        have HP := Lib.hid hp
        clear hp
        generalize a[k] = x at x1 x2 x3 x4 hne
        generalize b[k] = y at y1 y2 y3 y4 hne
        have d1 := fun (n : Later wr) => n.cell x1
        have d2 := fun (n : Later wr) => n.cell x2
        have d3 := fun (n : Later wr) => n.cell x3
        have d4 := fun (n : Later wr) => n.cell y1
        have d7 := fun (n : Later wr) => n.cell x4
        have d8 := fun (n : Later wr) => n.cell y4
        have d5 := fun (n : Later wr) => n.cell y2
        have d6 := fun (n : Later wr) => n.cell y3
        clear x1 x2 x3 x4 y1 y2 y3 y4
        go_wp2_with fail
        refine wp_region_later (by kernel_rfl) (by kernel_rfl) ?_
        repeat (go_big_quiet_step (fail))
        refine wpQuiet_later fun w5 q5 => ?_
        cases p
        · go_wp2_with fail
          go_ret
          refine ⟨retB (decide_eq_false fun e => ?_).symm, hq.tr q5⟩
          subst e
          have := HP.out
          simp at this
        · go_wp2_with fail
          go_roundw
          case rel =>
            refine ⟨k + 1, by omega, rfl, fun j h3 h4 hjk => ?_, hq.tr q5⟩
            by_cases hjk2 : j < k
            · exact HK.out j h3 h4 hjk2
            · obtain rfl : j = k := by omega
              exact of_decide_eq_true HP.out
          case measure => simp [intOf]; omega
      · go_wp2_with fail
        go_ret
        refine ⟨retB (decide_eq_true (List.ext_getElem (by rw [← HA.out, ← HB.out]) fun j h3 h4 => HK.out j h3 h4 (by have := HA.out; omega))).symm, hq⟩
  · have hne : ¬ (a.length : Int) = (b.length : Int) := by omega
    go_enter Tryz.func149, Tryz.ntmps149
    go_wp2_with fail
    go_ret
    exact ⟨retB (decide_eq_false fun e => hlen (by rw [e])).symm, Fr.refl _ _⟩
set_option maxRecDepth 100000 in
theorem eqReads_any (w : World) (F1 F2 : Nat → Prop) (A1 A2 : Option Addr) (c1 c2 : Nat) (a b : List Rdg) (h1 : Sl w F1 A1 (rdgsCells a)) (h2 : Sl w F2 A2 (rdgsCells b)) (hl : a.length ≤ 1000000000) :
    Calls Tryz.prog 150 #[.slice A1 a.length c1, .slice A2 b.length c2] w fun e w' => e = .returned (.bool (decide (a = b))) ∧ Nw w w' := by
  by_cases hlen : a.length = b.length
  · obtain ⟨n, hn⟩ : ∃ n, n = a.length := ⟨_, rfl⟩
    have hnb : n = b.length := hn.trans hlen
    rw [← hlen, ← hn]
    have HA := Lib.hid hn
    have HB := Lib.hid hnb
    have hl : n ≤ 1000000000 := by omega
    clear hn hnb hlen
    go_enter Tryz.func150, Tryz.ntmps150
    go_wp2_with fail
    go_loopw [13] (fun i wx => SameTo w a b i wx) (fun i _ => n - (intOf i).toNat)
    case atStart => exact ⟨0, Nat.zero_le _, rfl, fun _ _ _ h => by omega, Fr.refl _ _⟩
    case round =>
      obtain ⟨k, hk, rfl, hok, hq⟩ := hrel
      have HK := Lib.hid hok
      have hkn : k ≤ n := by rw [HA.out]; exact hk
      clear hok hk
      by_cases hlt : k < n
      · have hka : k < a.length := by rw [← HA.out]; exact hlt
        have hkb : k < b.length := by rw [← HB.out]; exact hlt
        obtain ⟨b1, o1, rfl, _, x1, x2, x3⟩ := (h1.fr hq (fun _ _ h => h)).rdg hka
        obtain ⟨b2, o2, rfl, _, y1, y2, y3⟩ := (h2.fr hq (fun _ _ h => h)).rdg hkb
        have hne := fun w => read_neq w a[k] b[k]
        obtain ⟨p, hp⟩ : ∃ p, decide (a[k] = b[k]) = p := ⟨_, rfl⟩
        rw [hp] at hne
        have HP := Lib.hid hp
        clear hp
        generalize a[k] = x at x1 x2 x3 hne
        generalize b[k] = y at y1 y2 y3 hne
        have d1 := fun (n : Later wr) => n.cell x1
        have d2 := fun (n : Later wr) => n.cell x2
        have d3 := fun (n : Later wr) => n.cell x3
        have d4 := fun (n : Later wr) => n.cell y1
        have d5 := fun (n : Later wr) => n.cell y2
        have d6 := fun (n : Later wr) => n.cell y3
        clear x1 x2 x3 y1 y2 y3
        go_wp2_with fail
        refine wp_region_later (by kernel_rfl) (by kernel_rfl) ?_
        repeat (go_big_quiet_step (fail))
        refine wpQuiet_later fun w5 q5 => ?_
        cases p
        · go_wp2_with fail
          go_ret
          refine ⟨retB (decide_eq_false fun e => ?_).symm, hq.tr q5⟩
          subst e
          have := HP.out
          simp at this
        · go_wp2_with fail
          go_roundw
          case rel =>
            refine ⟨k + 1, by omega, rfl, fun j h3 h4 hjk => ?_, hq.tr q5⟩
            by_cases hjk2 : j < k
            · exact HK.out j h3 h4 hjk2
            · obtain rfl : j = k := by omega
              exact of_decide_eq_true HP.out
          case measure => simp [intOf]; omega
      · go_wp2_with fail
        go_ret
        refine ⟨retB (decide_eq_true (List.ext_getElem (by rw [← HA.out, ← HB.out]) fun j h3 h4 => HK.out j h3 h4 (by have := HA.out; omega))).symm, hq⟩
  · have hne : ¬ (a.length : Int) = (b.length : Int) := by omega
    go_enter Tryz.func150, Tryz.ntmps150
    go_wp2_with fail
    go_ret
    exact ⟨retB (decide_eq_false fun e => hlen (by rw [e])).symm, Fr.refl _ _⟩
theorem eqf_span : Tryz.prog.underlying 29 = some (.struct (Tryz.prog.fieldsOf 29)) := by kernel_rfl
theorem stood_span : Tryz.prog.stoodInHeld 29 = false := by kernel_rfl
theorem span_eq (w : World) (a b c d : List UInt8) : (Op.equalIn 10000 29 (.agg #[StrV a, StrV b]) (.agg #[StrV c, StrV d])).run Tryz.prog w = .ok (decide (a = c ∧ b = d)) w := by
  rw [run_equalIn_agg w 9999 _ _ _ eqf_span stood_span]
  unfold Program.fieldsOf
  simp only [Tryz.underlying29]
  simp [Op.eqFields, go_sem, Tryz.underlying9]
  by_cases h1 : a = c
  · by_cases h2 : b = d
    · simp [h1, h2]
    · simp [h1, h2]
  · simp [h1]
theorem span_eql (w : World) (a b c d : List UInt8) : (binOp .eql 29 (.agg #[StrV a, StrV b]) (.agg #[StrV c, StrV d])).run Tryz.prog w = .ok (.bool (decide (a = c ∧ b = d))) w := by
  rw [run_eql_struct, span_eq]; rfl
/-- What is asked of two orders of one kind. -/
theorem ordF_eq (x y : OrdF) (hk : x.kind = y.kind) : decide (x = y) = (decide (x.nm = y.nm) && (decide (x.epoch = y.epoch) && (decide (x.acts = y.acts) && (decide (x.commit = y.commit) && (decide (x.reads = y.reads) && (decide (x.scheme = y.scheme) && (decide (x.stage = y.stage) && (decide (x.to = y.to) && (decide (x.lo = y.lo ∧ x.hi = y.hi) && decide (x.bytes = y.bytes)))))))))) := by
  obtain ⟨k1, n1, e1, a1, c1, r1, s1, t1, o1, l1, h1, b1⟩ := x
  obtain ⟨k2, n2, e2, a2, c2, r2, s2, t2, o2, l2, h2, b2⟩ := y
  obtain rfl : k1 = k2 := hk
  rw [Bool.eq_iff_iff]
  simp only [decide_eq_true_eq, Bool.and_eq_true, OrdF.mk.injEq, true_and, and_assoc]
end Go.Proofs.YtkjnlhidnkbelaaGreatDoor
/- Orders, answers held against each other. (Printed by gensame.py.) -/
namespace Go.Proofs.YtkjnlhidnkbelaaGreatDoor
open Go Go.RowKit
set_option linter.unusedVariables false
set_option linter.unusedSimpArgs false

theorem ordF_eqk (x y : OrdF) : decide (x = y) = (decide (x.kind = y.kind) && (decide (x.nm = y.nm) && (decide (x.epoch = y.epoch) && (decide (x.acts = y.acts) && (decide (x.commit = y.commit) && (decide (x.reads = y.reads) && (decide (x.scheme = y.scheme) && (decide (x.stage = y.stage) && (decide (x.to = y.to) && (decide (x.lo = y.lo ∧ x.hi = y.hi) && decide (x.bytes = y.bytes))))))))))) := by
  obtain ⟨k1, n1, e1, a1, c1, r1, s1, t1, o1, l1, h1, b1⟩ := x
  obtain ⟨k2, n2, e2, a2, c2, r2, s2, t2, o2, l2, h2, b2⟩ := y
  rw [Bool.eq_iff_iff]
  simp only [decide_eq_true_eq, Bool.and_eq_true, OrdF.mk.injEq, and_assoc]
theorem ansF_eq (x y : AnsF) : decide (x = y) = (decide (x.err = y.err) && (decide (x.nm = y.nm) && (decide (x.is = y.is) && (decide (x.commit = y.commit) && (decide (x.reads = y.reads) && (decide (x.scheme = y.scheme) && (decide (x.stage = y.stage) && decide (x.bytes = y.bytes)))))))) := by
  obtain ⟨k1, n1, e1, c1, r1, s1, t1, b1⟩ := x
  obtain ⟨k2, n2, e2, c2, r2, s2, t2, b2⟩ := y
  rw [Bool.eq_iff_iff]
  simp only [decide_eq_true_eq, Bool.and_eq_true, AnsF.mk.injEq, and_assoc]
theorem beq_int (a b : Int) : (a == b) = decide (a = b) := rfl
theorem beq_bool (a b : Bool) : (a == b) = decide (a = b) := by cases a <;> cases b <;> rfl
end Go.Proofs.YtkjnlhidnkbelaaGreatDoor
