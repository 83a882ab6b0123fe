/- The program's reader: a number. -/
import Derived.Test.YtippdjaakcgeoaaRdA
namespace Go.Proofs.Ytippdjaakcgeoaa
open Go Go.RowKit

theorem ron_any (w : World) (F : Nat → Prop) (g : Nat) (s : Rd) (h : IsRd w F g s) :
    Calls Try.prog 85 #[.pointer (some ⟨g, 0, none⟩)] w fun e w' => e = .returned (.bool s.isSome) ∧ w = w' := by
  cases s with
  | none =>
    have c0 := h.1.cell 0
    have c1 := h.1.cell 1
    simp at c0 c1
    go_enter Try.func85, Try.ntmps85
    go_wp2
    go_ret
    exact ⟨rfl, rfl⟩
  | some bs =>
    obtain ⟨A, cap, hb, _⟩ := h
    have c0 := hb.cell 0
    have c1 := hb.cell 1
    simp at c0 c1
    go_enter Try.func85, Try.ntmps85
    go_wp2
    go_ret
    exact ⟨rfl, rfl⟩

def NumLoop (w : World) (F : Nat → Prop) (g : Nat) (bs : List UInt8) (n i : Value) (wr : World) : Prop :=
  ∃ (k acc : Nat) (rest : List UInt8), n = .int .i64 acc ∧ i = .int .i64 (7 * k : Nat) ∧ NumAt bs k acc rest ∧ RdTo w F g (some rest) wr

theorem take_one (w : World) (F : Nat → Prop) (g : Nat) (b : UInt8) (r : List UInt8) (h : IsRd w F g (some (b :: r))) :
    Calls Try.prog 86 #[.pointer (some ⟨g, 0, none⟩), .int .i64 1] w fun e w' => ∃ b' o, e = .returned (.slice (some ⟨b', o, none⟩) 1 1) ∧ w'.cell? ⟨b', o, none⟩ = some (B8 b) ∧ RdTo w F g (some r) w' := by
  refine (take_any w F g _ h 1).mono fun e w' hh => ?_
  unfold TakeTo at hh
  rw [if_neg (by simp)] at hh
  obtain ⟨A', rfl, h1, h2⟩ := hh
  obtain ⟨b', o, rfl, _, hc⟩ := h2.get (k := 0) (by simp)
  exact ⟨b', o, rfl, by simpa using hc, by simpa using h1⟩
theorem take_none (w : World) (F : Nat → Prop) (g : Nat) (h : IsRd w F g (some [])) :
    Calls Try.prog 86 #[.pointer (some ⟨g, 0, none⟩), .int .i64 1] w fun e w' => e = .returned (.slice none 0 0) ∧ RdTo w F g none w' := by
  refine (take_any w F g _ h 1).mono fun e w' hh => ?_
  unfold TakeTo at hh
  rwa [if_pos (by simp)] at hh

set_option maxRecDepth 100000 in
set_option maxHeartbeats 1000000 in
theorem rdnumber_some (w : World) (F : Nat → Prop) (g : Nat) (bs : List UInt8) (h : IsRd w F g (some bs)) (most : Int) :
    Calls Try.prog 61 #[.pointer (some ⟨g, 0, none⟩), .int .i64 most] w fun e w' => e = .returned (.int .i64 (rdNum most (some bs)).1) ∧ RdTo w F g (rdNum most (some bs)).2 w' := by
  go_enter Try.func61, Try.ntmps61
  go_wp2_with (go_at_call 85; refine (ron_any _ _ _ _ h).mono ?_; rintro e w' ⟨rfl, rfl⟩)
  go_loopw [5, 6, 7] (fun n i _ wr => NumLoop w F g bs n i wr) (fun _ i _ _ => 63 - (intOf i).toNat)
  case atStart => exact ⟨0, 0, bs, rfl, rfl, NumAt.start bs, RdTo.refl h⟩
  case round =>
    obtain ⟨k, acc, rest, rfl, rfl, hN, hr⟩ := hrel
    by_cases hk : k < 9
    · cases rest with
      | nil =>
        go_wp2_with fail
        refine (take_none _ _ _ hr.1).mono ?_
        rintro e w1 ⟨rfl, h1⟩
        have c1 := h1.1.1.cell 1
        simp at c1
        go_wp2_with fail
        go_ret
        rw [rdNum_none most hN.none_]
        exact ⟨rfl, hr.trans h1⟩
      | cons b r =>
        have hNB := numByte k acc b hk hN.lt
        obtain ⟨v, hv⟩ : ∃ v : Nat, v = acc + 128 ^ k * (b.toNat % 128) := ⟨_, rfl⟩
        rw [← hv] at hNB
        have HV := Lib.hid hv
        clear hv
        have hb256 : b.toNat < 256 := b.toNat_lt
        go_wp2_with fail
        refine (take_one _ _ _ _ _ hr.1).mono ?_
        rintro e w1 ⟨b', o, rfl, hc, h1⟩
        obtain ⟨A, cap, hb, _⟩ := id h1.1
        have c1 := hb.cell 1
        simp at c1
        by_cases hlt : b.toNat < 128
        · have hlast := Lib.hid (hN.last hk hlt)
          by_cases h0 : 0 < k ∧ b.toNat = 0
          · have hd : rdNum most (some bs) = (0, none) := by
              have := hlast.out
              rw [if_pos h0] at this
              exact rdNum_none most this
            have HD := Lib.hid hd
            clear hd
            obtain ⟨h01, h02⟩ := h0
            go_wp2_with (go_at_call 87; refine (fail_any _ _ _ _ h1.1).mono ?_; rintro e w2 ⟨rfl, h2⟩)
            go_ret
            rw [HD.out]
            exact ⟨rfl, hr.trans (h1.trans h2)⟩
          · have hv2 : acc + 128 ^ k * b.toNat = v := by
              have := HV.out
              rw [Nat.mod_eq_of_lt hlt] at this
              exact this.symm
            have hl2 := hlast.out
            rw [if_neg h0, hv2] at hl2
            have HL2 := Lib.hid hl2
            clear hl2 hv2 hlast
            have h0' := Lib.hid h0
            clear h0
            by_cases ht : 4611686018427387903 < (v : Int) ∨ ((v : Int) ≤ 4611686018427387903 ∧ most < (v : Int))
            · have hd : rdNum most (some bs) = (0, none) := by
                have := HL2.out
                by_cases ht1 : topN < v
                · rw [if_pos ht1] at this
                  exact rdNum_none most this
                · rw [if_neg ht1] at this
                  exact rdNum_big most this (by unfold topN at ht1; omega)
              have HD := Lib.hid hd
              clear hd
              have hq : (¬ ((0 : Int) < 7 * (k : Int)) ∨ (0 < k ∧ ((b.toNat : Int) == 0) = false)) := by
                have h9 := h0'.out
                by_cases hz : 0 < k
                · exact .inr ⟨hz, beq_eq_false_iff_ne.2 (by omega)⟩
                · exact .inl (by omega)
              rcases hq with hkf | ⟨hk0, hb0⟩ <;> rcases ht with ht | ⟨ht0, ht⟩
              all_goals
                go_wp2_with (go_at_call 87; refine (fail_any _ _ _ _ h1.1).mono ?_; rintro e w2 ⟨rfl, h2⟩)
                go_ret
                rw [HD.out]
                exact ⟨rfl, hr.trans (h1.trans h2)⟩
            · have hd : rdNum most (some bs) = ((v : Int), some r) := by
                have := HL2.out
                rw [if_neg (by unfold topN; omega)] at this
                exact rdNum_ok most this (by omega)
              have HD := Lib.hid hd
              clear hd
              have ht1 : (v : Int) ≤ 4611686018427387903 := by omega
              have ht2 : (v : Int) ≤ most := by omega
              clear ht
              have hq : (¬ ((0 : Int) < 7 * (k : Int)) ∨ (0 < k ∧ ((b.toNat : Int) == 0) = false)) := by
                have h9 := h0'.out
                by_cases hz : 0 < k
                · exact .inr ⟨hz, beq_eq_false_iff_ne.2 (by omega)⟩
                · exact .inl (by omega)
              rcases hq with hkf | ⟨hk0, hb0⟩
              all_goals
                go_wp2_with fail
                go_ret
                rw [HD.out]
                exact ⟨rfl, hr.trans h1⟩
        · have hb128 : 128 ≤ b.toNat := by omega
          have hnext := hN.next hk hb128
          have hvb : acc + 128 ^ k * (b.toNat - 128) = v := by
            have := HV.out
            rw [this]
            congr 2
            omega
          rw [hvb] at hnext
          clear hvb
          go_wp2_with fail
          go_roundw
          case rel => exact ⟨k + 1, v, r, rfl, by go_num, hnext, hr.trans h1⟩
          case measure => simp [intOf]; omega
    · have hk9 : k = 9 := by have := hN.le; omega
      subst hk9
      go_wp2_with (go_at_call 87; refine (fail_any _ _ _ _ hr.1).mono ?_; rintro e w2 ⟨rfl, h2⟩)
      go_ret
      rw [rdNum_none most hN.far]
      exact ⟨rfl, hr.trans h2⟩
end Go.Proofs.Ytippdjaakcgeoaa
