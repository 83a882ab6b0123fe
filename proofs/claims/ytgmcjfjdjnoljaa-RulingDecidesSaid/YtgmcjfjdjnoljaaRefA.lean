/- The reference's reader. -/
import Derived.Test.YtgmcjfjdjnoljaaKitA
namespace Go.Proofs.Ytgmcjfjdjnoljaa
open Go Go.RowKit

def GetTo (bs : List UInt8) (e : Ending) : Prop :=
  (decN bs = none ∧ e = .returned (.tuple #[.int .i64 0, .int .i64 0])) ∨
  ∃ n j : Nat, decN bs = some (n, bs.drop j) ∧ 0 < j ∧ j ≤ bs.length ∧ e = .returned (.tuple #[.int .i64 n, .int .i64 j])

def GetLoop (bs : List UInt8) (n i : Value) : Prop := ∃ k acc : Nat, n = .int .i64 acc ∧ i = .int .i64 k ∧ k ≤ bs.length ∧ NumAt bs k acc (bs.drop k)

set_option maxRecDepth 100000 in
set_option maxHeartbeats 1000000 in
theorem rget_any (w : World) (F : Nat → Prop) (A : Option Addr) (c : Nat) (bs : List UInt8) (h : Sl w F A (bs.map B8)) (hsz : bs.length ≤ 1000000000000) :
    Calls Try.prog 85 #[.slice A bs.length c] w fun e w' => GetTo bs e ∧ w = w' := by
  go_enter Try.func85, Try.ntmps85
  go_wp2_with fail
  go_loop [4, 5] (fun n i => GetLoop bs n i) (fun _ i => 9 - (intOf i).toNat)
  case atStart => exact ⟨0, 0, rfl, rfl, Nat.zero_le _, NumAt.start bs⟩
  case round =>
    obtain ⟨k, acc, rfl, rfl, hkl, hN⟩ := hrel
    have hk9 := hN.le
    by_cases hlt : k < bs.length
    · by_cases hk : k < 9
      · obtain ⟨b', o, rfl, _, hc⟩ := h.get hlt
        obtain ⟨b, hb⟩ : ∃ b, bs[k] = b := ⟨_, rfl⟩
        have hdrop : bs.drop k = b :: bs.drop (k + 1) := by rw [← hb]; exact List.drop_eq_getElem_cons hlt
        rw [hdrop] at hN
        rw [hb] at hc
        have HB := Lib.hid hb
        clear hb hdrop
        have hNB := numByte k acc b hk hN.lt
        obtain ⟨v, hv⟩ : ∃ v : Nat, v = acc + 128 ^ k * (b.toNat % 128) := ⟨_, rfl⟩
        rw [← hv] at hNB
        have HV := Lib.hid hv
        clear hv
        have hb256 : b.toNat < 256 := b.toNat_lt
        by_cases hlt8 : b.toNat < 128
        · have hlast := Lib.hid (hN.last hk hlt8)
          by_cases h0 : 0 < k ∧ b.toNat = 0
          · have hfin : GetTo bs (.returned (.tuple #[.int .i64 0, .int .i64 0])) := by
              have := hlast.out
              rw [if_pos h0] at this
              exact .inl ⟨this, rfl⟩
            obtain ⟨h01, h02⟩ := h0
            have h03 : ((b.toNat : Int) == 0) = true := by simp [h02]
            clear h02
            go_wp2_with fail
            go_ret2
            exact ⟨hfin, rfl⟩
          · have hv2 : acc + 128 ^ k * b.toNat = v := by
              have := HV.out
              rw [Nat.mod_eq_of_lt hlt8] at this
              exact this.symm
            have hl2 := hlast.out
            rw [if_neg h0, hv2] at hl2
            have HL2 := Lib.hid hl2
            clear hl2 hv2 hlast
            have hq : (¬ (0 < k) ∨ (0 < k ∧ ((b.toNat : Int) == 0) = false)) := by
              by_cases hz : 0 < k
              · exact .inr ⟨hz, beq_eq_false_iff_ne.2 (by omega)⟩
              · exact .inl hz
            clear h0
            by_cases ht : 4611686018427387903 < (v : Int)
            · have hfin : GetTo bs (.returned (.tuple #[.int .i64 0, .int .i64 0])) := by
                have := HL2.out
                rw [if_pos (by unfold topN; omega)] at this
                exact .inl ⟨this, rfl⟩
              rcases hq with hkf | ⟨hk0, hb0⟩
              all_goals
                go_wp2_with fail
                go_ret2
                exact ⟨hfin, rfl⟩
            · have hfin : GetTo bs (.returned (.tuple #[.int .i64 v, .int .i64 ((k : Int) + 1)])) := by
                have := HL2.out
                rw [if_neg (by unfold topN; omega)] at this
                exact .inr ⟨v, k + 1, this, by omega, by omega, rfl⟩
              have ht1 : (v : Int) ≤ 4611686018427387903 := by omega
              clear ht
              rcases hq with hkf | ⟨hk0, hb0⟩
              all_goals
                go_wp2_with fail
                go_ret2
                exact ⟨hfin, rfl⟩
        · have hb128 : 128 ≤ b.toNat := by omega
          have hnext := hN.next hk hb128
          have hvb : acc + 128 ^ k * (b.toNat - 128) = v := by
            have := HV.out
            rw [this]
            congr 2
            omega
          rw [hvb] at hnext
          clear hvb
          go_wp2_with fail
          go_round
          case rel => exact ⟨k + 1, v, rfl, by go_num, by omega, hnext⟩
          case measure => simp [intOf]; omega
      · have hk9' : k = 9 := by omega
        subst hk9'
        have hfin : GetTo bs (.returned (.tuple #[.int .i64 0, .int .i64 0])) := .inl ⟨hN.far, rfl⟩
        go_wp2_with fail
        go_ret2
        exact ⟨hfin, rfl⟩
    · have hd : bs.drop k = [] := List.drop_eq_nil_of_le (by omega)
      rw [hd] at hN
      have hfin : GetTo bs (.returned (.tuple #[.int .i64 0, .int .i64 0])) := .inl ⟨hN.none_, rfl⟩
      clear hd
      go_wp2_with fail
      go_ret2
      exact ⟨hfin, rfl⟩
end Go.Proofs.Ytgmcjfjdjnoljaa
