/- Rulings: the document's key; reads told right or not. -/
import Derived.Test.YtgmcjfjdjnoljaaRuB
namespace Go.Proofs.Ytgmcjfjdjnoljaa
open Go Go.RowKit
set_option maxRecDepth 100000 in
theorem refKey_any (w : World) (l : List UInt8) (hl : l.length ≤ 1000000000000) : Calls Try.prog 70 #[StrV l] w fun e w' => e = .returned (.bool (keyOk l)) ∧ w = w' := by
  have hsz := str_size l
  have hnil := str_nil l
  have hix : ∀ (w : World) (k : Nat) (h : k < l.length), (Instr.index 9 (.string ⟨l.toArray⟩) (.int .i64 (k : Int))).run Try.prog w = .ok (.int .u8 (l[k].toNat : Int)) w := fun w => str_index w l
  show Calls Try.prog 70 #[.string ⟨l.toArray⟩] w fun e w' => e = .returned (.bool (keyOk l)) ∧ w = w'
  generalize (⟨l.toArray⟩ : ByteArray) = s at hsz hnil hix ⊢
  by_cases h0 : l = []
  · rw [decide_eq_true h0] at hnil
    have H0 := Lib.hid h0
    have hz : l.length = 0 := by rw [h0]; rfl
    clear h0 hix
    go_enter Try.func70, Try.ntmps70
    go_wp2_with fail
    go_ret
    exact ⟨retB (by rw [H0.out]; rfl), rfl⟩
  · have h1 : 1 ≤ l.length := List.length_pos_iff.2 h0
    have h1i : ¬ (l.length : Int) < 1 := by omega
    rw [decide_eq_false h0] at hnil
    clear h0
    by_cases h2 : l.length ≤ 20
    · have h2i : ¬ (20 : Int) < (l.length : Int) := by omega
      go_enter Try.func70, Try.ntmps70
      go_wp2_with fail
      go_loopw [3] (fun i wx => KeyTo l w i wx) (fun i _ => l.length - (intOf i).toNat)
      case atStart => exact ⟨0, Nat.zero_le _, rfl, fun _ _ h => by omega, rfl⟩
      case round =>
        obtain ⟨k, hk, rfl, hok, rfl⟩ := hrel
        have HK := Lib.hid hok
        clear hok
        by_cases hlt : k < l.length
        · have hx := fun w => hix w k hlt
          obtain ⟨c, hc⟩ : ∃ c : Int, (l[k].toNat : Int) = c := ⟨_, rfl⟩
          rw [hc] at hx
          have HC := Lib.hid hc
          clear hc hix
          by_cases h3 : 97 ≤ c
          · by_cases h4 : c ≤ 122
            · go_wp2_with fail
              go_roundw
              case rel =>
                refine ⟨k + 1, by omega, rfl, fun j hj hjk => ?_, rfl⟩
                by_cases hjk2 : j < k
                · exact HK.out j hj hjk2
                · obtain rfl : j = k := by omega
                  have := HC.out
                  exact keyCh_yes (.inl (by omega))
              case measure => simp [intOf]; omega
            · have h5 : 48 ≤ c := by omega
              have h6 : ¬ c ≤ 57 := by omega
              go_wp2_with fail
              go_ret
              have := HC.out
              exact ⟨retB (keyOk_no k hlt (keyCh_no (by omega))).symm, rfl⟩
          · by_cases h5 : 48 ≤ c
            · by_cases h6 : c ≤ 57
              · go_wp2_with fail
                go_roundw
                case rel =>
                  refine ⟨k + 1, by omega, rfl, fun j hj hjk => ?_, rfl⟩
                  by_cases hjk2 : j < k
                  · exact HK.out j hj hjk2
                  · obtain rfl : j = k := by omega
                    have := HC.out
                    exact keyCh_yes (.inr (by omega))
                case measure => simp [intOf]; omega
              · go_wp2_with fail
                go_ret
                have := HC.out
                exact ⟨retB (keyOk_no k hlt (keyCh_no (by omega))).symm, rfl⟩
            · go_wp2_with fail
              go_ret
              have := HC.out
              exact ⟨retB (keyOk_no k hlt (keyCh_no (by omega))).symm, rfl⟩
        · go_wp2_with fail
          go_ret
          refine ⟨retB ?_, rfl⟩
          unfold keyOk
          rw [decide_eq_true h1, decide_eq_true h2, Bool.true_and, Bool.true_and]
          refine (List.all_eq_true.2 fun x hx => ?_).symm
          obtain ⟨j, hj, rfl⟩ := List.mem_iff_getElem.1 hx
          exact HK.out j hj (by omega)
    · have h2i : (20 : Int) < (l.length : Int) := by omega
      go_enter Try.func70, Try.ntmps70
      go_wp2_with fail
      go_ret
      exact ⟨retB (by unfold keyOk; rw [decide_eq_false h2]; simp), rfl⟩

/-- A read as a value. -/
abbrev RdgV (r : Rdg) : Value := .agg #[StrV r.1, .bool r.2.1, StrV r.2.2]
theorem wrong_any (w : World) (r : Rdg) (h1 : r.1.length ≤ 1000000000000) (h2 : r.2.2.length ≤ 1000000000000) : Calls Try.prog 50 #[RdgV r] w fun e w' => e = .returned (.bool (!rdgOk r)) ∧ Nw w w' := by
  obtain ⟨a, b, l⟩ := r
  have hcon := fun w => spanKey_any w a h1
  have hsz := str_size l
  have hnil := str_nil l
  have hgo : rdgOk (a, b, l) = (keyOk a && (decide (l.length ≤ 20) && (b || decide (l = [])))) := rfl
  generalize decide (l = []) = n at hnil hgo
  generalize keyOk a = q at hcon hgo
  generalize rdgOk (a, b, l) = res at hgo ⊢
  have HG := Lib.hid hgo
  clear hgo
  show Calls Try.prog 50 #[.agg #[StrV a, .bool b, .string ⟨l.toArray⟩]] w fun e w' => e = .returned (.bool (!res)) ∧ Nw w w'
  generalize (⟨l.toArray⟩ : ByteArray) = s at hsz hnil ⊢
  by_cases h20 : l.length ≤ 20
  · have h2i : decide ((20 : Int) < (l.length : Int)) = false := decide_eq_false (by omega)
    have H := Lib.hid (decide_eq_true h20)
    cases q <;> cases b <;> cases n <;>
    · go_enter Try.func50, Try.ntmps50
      go_wp2_with (go_at_call 74; refine (hcon _).mono ?_; rintro e w1 ⟨rfl, rfl⟩)
      go_ret
      exact ⟨retB (by rw [HG.out, H.out]; rfl), (Fr.refl _ w).alloc _⟩
  · have h2i : decide ((20 : Int) < (l.length : Int)) = true := decide_eq_true (by omega)
    have H := Lib.hid (decide_eq_false h20)
    cases q <;> cases b <;> cases n <;>
    · go_enter Try.func50, Try.ntmps50
      go_wp2_with (go_at_call 74; refine (hcon _).mono ?_; rintro e w1 ⟨rfl, rfl⟩)
      go_ret
      exact ⟨retB (by rw [HG.out, H.out]; rfl), (Fr.refl _ w).alloc _⟩
theorem readRight_any (w : World) (r : Rdg) (h1 : r.1.length ≤ 1000000000000) (h2 : r.2.2.length ≤ 1000000000000) : Calls Try.prog 42 #[RdgV r] w fun e w' => e = .returned (.bool (rdgOk r)) ∧ Nw w w' := by
  obtain ⟨a, b, l⟩ := r
  have hcon := fun w => refKey_any w a h1
  have hsz := str_size l
  have hnil := str_nil l
  have hgo : rdgOk (a, b, l) = (keyOk a && (decide (l.length ≤ 20) && (b || decide (l = [])))) := rfl
  generalize decide (l = []) = n at hnil hgo
  generalize keyOk a = q at hcon hgo
  generalize rdgOk (a, b, l) = res at hgo ⊢
  have HG := Lib.hid hgo
  clear hgo
  show Calls Try.prog 42 #[.agg #[StrV a, .bool b, .string ⟨l.toArray⟩]] w fun e w' => e = .returned (.bool res) ∧ Nw w w'
  generalize (⟨l.toArray⟩ : ByteArray) = s at hsz hnil ⊢
  by_cases h20 : l.length ≤ 20
  · have h2i : (l.length : Int) ≤ 20 := by omega
    have H := Lib.hid (decide_eq_true h20)
    cases q <;> cases b <;> cases n <;>
    · go_enter Try.func42, Try.ntmps42
      go_wp2_with (go_at_call 70; refine (hcon _).mono ?_; rintro e w1 ⟨rfl, rfl⟩)
      go_ret
      exact ⟨retB (by rw [HG.out, H.out]; rfl), (Fr.refl _ w).alloc _⟩
  · have h2i : ¬ (l.length : Int) ≤ 20 := by omega
    have H := Lib.hid (decide_eq_false h20)
    cases q <;> cases b <;> cases n <;>
    · go_enter Try.func42, Try.ntmps42
      go_wp2_with (go_at_call 70; refine (hcon _).mono ?_; rintro e w1 ⟨rfl, rfl⟩)
      go_ret
      exact ⟨retB (by rw [HG.out, H.out]; rfl), (Fr.refl _ w).alloc _⟩
end Go.Proofs.Ytgmcjfjdjnoljaa
