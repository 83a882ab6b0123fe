/- Keys, on either side. -/
import Derived.Test.YtfglibkffcogcaaGreatMoA
import Derived.Test.YtfglibkffcogcaaGreatPast
namespace Go.Proofs.YtfglibkffcogcaaGreat
open Go Go.RowKit

theorem str_size (l : List UInt8) : (⟨l.toArray⟩ : ByteArray).size = l.length := by simp [ByteArray.size]
theorem str_index (w : World) (l : List UInt8) (k : Nat) (h : k < l.length) : (Instr.index 9 (StrV l) (.int .i64 (k : Int))).run Tryz.prog w = .ok (.int .u8 (l[k].toNat : Int)) w := by
  rw [run_index_string w 9 _ .i64 k Tryz.underlying9, dif_pos ⟨by omega, by rw [str_size]; omega⟩]
  simp [ByteArray.getElem_eq_getElem_data]
theorem str_nil (l : List UInt8) : (⟨l.toArray⟩ : ByteArray).toList.isEmpty = decide (l = []) := by
  rw [ByteArray.toList_mk]
  cases l <;> rfl
/-- All letters before the k-th are letters of a key. -/
def KeyTo (l : List UInt8) (w : World) (i : Value) (wx : World) : Prop := ∃ k : Nat, k ≤ l.length ∧ i = .int .i64 k ∧ (∀ j (h : j < l.length), j < k → keyCh l[j] = true) ∧ wx = w
theorem keyCh_yes {b : UInt8} (h : (97 ≤ b.toNat ∧ b.toNat ≤ 122) ∨ (48 ≤ b.toNat ∧ b.toNat ≤ 57)) : keyCh b = true := by
  unfold keyCh
  simp only [Bool.or_eq_true, Bool.and_eq_true, decide_eq_true_eq]
  exact h
theorem keyCh_no {b : UInt8} (h : ¬ ((97 ≤ b.toNat ∧ b.toNat ≤ 122) ∨ (48 ≤ b.toNat ∧ b.toNat ≤ 57))) : keyCh b = false := by
  cases hk : keyCh b with
  | false => rfl
  | true =>
    unfold keyCh at hk
    simp only [Bool.or_eq_true, Bool.and_eq_true, decide_eq_true_eq] at hk
    exact (h hk).elim
theorem keyOk_no {l : List UInt8} (k : Nat) (h : k < l.length) (hk : keyCh l[k] = false) : keyOk l = false := by
  cases ho : keyOk l with
  | false => rfl
  | true =>
    unfold keyOk at ho
    simp only [Bool.and_eq_true, List.all_eq_true] at ho
    rw [ho.2 _ (List.getElem_mem h)] at hk
    cases hk
theorem retB {a b : Bool} (h : a = b) : Ending.returned (.bool a) = Ending.returned (.bool b) := by rw [h]
set_option maxRecDepth 100000 in
theorem spanKey_any (w : World) (l : List UInt8) (hl : l.length ≤ 1000000000000) : Calls Tryz.prog 119 #[StrV l] w fun e w' => e = .returned (.bool (keyOk l)) ∧ w = w' := by
  have hsz := str_size l
  have hnil := str_nil l
  have hix : ∀ (w : World) (k : Nat) (h : k < l.length), (Instr.index 9 (.string ⟨l.toArray⟩) (.int .i64 (k : Int))).run Tryz.prog w = .ok (.int .u8 (l[k].toNat : Int)) w := fun w => str_index w l
  show Calls Tryz.prog 119 #[.string ⟨l.toArray⟩] w fun e w' => e = .returned (.bool (keyOk l)) ∧ w = w'
  generalize (⟨l.toArray⟩ : ByteArray) = s at hsz hnil hix ⊢
  by_cases h0 : l = []
  · rw [decide_eq_true h0] at hnil
    have H0 := Lib.hid h0
    clear h0 hix
    go_enter Tryz.func119, Tryz.ntmps119
    go_wp2_with fail
    go_ret
    exact ⟨retB (by rw [H0.out]; rfl), rfl⟩
  · have h1 : 1 ≤ l.length := List.length_pos_iff.2 h0
    rw [decide_eq_false h0] at hnil
    clear h0
    by_cases h2 : l.length ≤ 20
    · have h2i : ¬ (20 : Int) < (l.length : Int) := by omega
      go_enter Tryz.func119, Tryz.ntmps119
      go_wp2_with fail
      go_loopw [14] (fun i wx => KeyTo l w i wx) (fun i _ => l.length - (intOf i).toNat)
      case atStart => exact ⟨0, Nat.zero_le _, rfl, fun _ _ h => by omega, rfl⟩
      case round =>
        obtain ⟨k, hk, rfl, hok, rfl⟩ := hrel
        have HK := Lib.hid hok
        clear hok
        by_cases hlt : k < l.length
        · have hx := fun w => hix w k hlt
          obtain ⟨c, hc⟩ : ∃ c : Int, (l[k].toNat : Int) = c := ⟨_, rfl⟩
          rw [hc] at hx
          have HC := Lib.hid hc
          clear hc hix
          by_cases h3 : 97 ≤ c
          · by_cases h4 : c ≤ 122
            · go_wp2_with fail
              go_roundw
              case rel =>
                refine ⟨k + 1, by omega, rfl, fun j hj hjk => ?_, rfl⟩
                by_cases hjk2 : j < k
                · exact HK.out j hj hjk2
                · obtain rfl : j = k := by omega
                  have := HC.out
                  exact keyCh_yes (.inl (by omega))
              case measure => simp [intOf]; omega
            · have h5 : 48 ≤ c := by omega
              have h6 : ¬ c ≤ 57 := by omega
              go_wp2_with fail
              go_ret
              have := HC.out
              exact ⟨retB (keyOk_no k hlt (keyCh_no (by omega))).symm, rfl⟩
          · by_cases h5 : 48 ≤ c
            · by_cases h6 : c ≤ 57
              · go_wp2_with fail
                go_roundw
                case rel =>
                  refine ⟨k + 1, by omega, rfl, fun j hj hjk => ?_, rfl⟩
                  by_cases hjk2 : j < k
                  · exact HK.out j hj hjk2
                  · obtain rfl : j = k := by omega
                    have := HC.out
                    exact keyCh_yes (.inr (by omega))
                case measure => simp [intOf]; omega
              · go_wp2_with fail
                go_ret
                have := HC.out
                exact ⟨retB (keyOk_no k hlt (keyCh_no (by omega))).symm, rfl⟩
            · go_wp2_with fail
              go_ret
              have := HC.out
              exact ⟨retB (keyOk_no k hlt (keyCh_no (by omega))).symm, rfl⟩
        · go_wp2_with fail
          go_ret
          refine ⟨retB ?_, rfl⟩
          unfold keyOk
          rw [decide_eq_true h1, decide_eq_true h2, Bool.true_and, Bool.true_and]
          refine (List.all_eq_true.2 fun x hx => ?_).symm
          obtain ⟨j, hj, rfl⟩ := List.mem_iff_getElem.1 hx
          exact HK.out j hj (by omega)
    · have h2i : (20 : Int) < (l.length : Int) := by omega
      go_enter Tryz.func119, Tryz.ntmps119
      go_wp2_with fail
      go_ret
      exact ⟨retB (by unfold keyOk; rw [decide_eq_false h2]; simp), rfl⟩
set_option maxRecDepth 100000 in
theorem refKey_any (w : World) (l : List UInt8) (hl : l.length ≤ 1000000000000) : Calls Tryz.prog 121 #[StrV l] w fun e w' => e = .returned (.bool (keyOk l)) ∧ w = w' := by
  have hsz := str_size l
  have hnil := str_nil l
  have hix : ∀ (w : World) (k : Nat) (h : k < l.length), (Instr.index 9 (.string ⟨l.toArray⟩) (.int .i64 (k : Int))).run Tryz.prog w = .ok (.int .u8 (l[k].toNat : Int)) w := fun w => str_index w l
  show Calls Tryz.prog 121 #[.string ⟨l.toArray⟩] w fun e w' => e = .returned (.bool (keyOk l)) ∧ w = w'
  generalize (⟨l.toArray⟩ : ByteArray) = s at hsz hnil hix ⊢
  by_cases h0 : l = []
  · rw [decide_eq_true h0] at hnil
    have H0 := Lib.hid h0
    have hz : l.length = 0 := by rw [h0]; rfl
    clear h0 hix
    go_enter Tryz.func121, Tryz.ntmps121
    go_wp2_with fail
    go_ret
    exact ⟨retB (by rw [H0.out]; rfl), rfl⟩
  · have h1 : 1 ≤ l.length := List.length_pos_iff.2 h0
    have h1i : ¬ (l.length : Int) < 1 := by omega
    rw [decide_eq_false h0] at hnil
    clear h0
    by_cases h2 : l.length ≤ 20
    · have h2i : ¬ (20 : Int) < (l.length : Int) := by omega
      go_enter Tryz.func121, Tryz.ntmps121
      go_wp2_with fail
      go_loopw [3] (fun i wx => KeyTo l w i wx) (fun i _ => l.length - (intOf i).toNat)
      case atStart => exact ⟨0, Nat.zero_le _, rfl, fun _ _ h => by omega, rfl⟩
      case round =>
        obtain ⟨k, hk, rfl, hok, rfl⟩ := hrel
        have HK := Lib.hid hok
        clear hok
        by_cases hlt : k < l.length
        · have hx := fun w => hix w k hlt
          obtain ⟨c, hc⟩ : ∃ c : Int, (l[k].toNat : Int) = c := ⟨_, rfl⟩
          rw [hc] at hx
          have HC := Lib.hid hc
          clear hc hix
          by_cases h3 : 97 ≤ c
          · by_cases h4 : c ≤ 122
            · go_wp2_with fail
              go_roundw
              case rel =>
                refine ⟨k + 1, by omega, rfl, fun j hj hjk => ?_, rfl⟩
                by_cases hjk2 : j < k
                · exact HK.out j hj hjk2
                · obtain rfl : j = k := by omega
                  have := HC.out
                  exact keyCh_yes (.inl (by omega))
              case measure => simp [intOf]; omega
            · have h5 : 48 ≤ c := by omega
              have h6 : ¬ c ≤ 57 := by omega
              go_wp2_with fail
              go_ret
              have := HC.out
              exact ⟨retB (keyOk_no k hlt (keyCh_no (by omega))).symm, rfl⟩
          · by_cases h5 : 48 ≤ c
            · by_cases h6 : c ≤ 57
              · go_wp2_with fail
                go_roundw
                case rel =>
                  refine ⟨k + 1, by omega, rfl, fun j hj hjk => ?_, rfl⟩
                  by_cases hjk2 : j < k
                  · exact HK.out j hj hjk2
                  · obtain rfl : j = k := by omega
                    have := HC.out
                    exact keyCh_yes (.inr (by omega))
                case measure => simp [intOf]; omega
              · go_wp2_with fail
                go_ret
                have := HC.out
                exact ⟨retB (keyOk_no k hlt (keyCh_no (by omega))).symm, rfl⟩
            · go_wp2_with fail
              go_ret
              have := HC.out
              exact ⟨retB (keyOk_no k hlt (keyCh_no (by omega))).symm, rfl⟩
        · go_wp2_with fail
          go_ret
          refine ⟨retB ?_, rfl⟩
          unfold keyOk
          rw [decide_eq_true h1, decide_eq_true h2, Bool.true_and, Bool.true_and]
          refine (List.all_eq_true.2 fun x hx => ?_).symm
          obtain ⟨j, hj, rfl⟩ := List.mem_iff_getElem.1 hx
          exact HK.out j hj (by omega)
    · have h2i : (20 : Int) < (l.length : Int) := by omega
      go_enter Tryz.func121, Tryz.ntmps121
      go_wp2_with fail
      go_ret
      exact ⟨retB (by unfold keyOk; rw [decide_eq_false h2]; simp), rfl⟩

end Go.Proofs.YtfglibkffcogcaaGreat
