/- Lemmas of the walks: OfA, KitB, OdST. (Laid together by shake.py.) -/
import Derived.Test.YtkjnlhidnkbelaaGreatDoorOz04
import Derived.Test.YtkjnlhidnkbelaaGreatDoorOz09
import Derived.Test.YtkjnlhidnkbelaaGreatDoorOz10
set_option linter.unusedVariables false
set_option linter.unusedSimpArgs false
namespace Go.Proofs.YtkjnlhidnkbelaaGreatDoor
open Go Go.RowKit
set_option maxRecDepth 100000 in
theorem rfwithin_any (w : World) (a b c : Int) : Calls Tryz.prog 81 #[I64 a, I64 b, I64 c] w fun e w' => e = .returned (.bool (decide (a ≤ b ∧ b ≤ c))) ∧ Nw w w' := by
  by_cases h1 : a ≤ b
  · by_cases h2 : b ≤ c
    · have e : decide (a ≤ b ∧ b ≤ c) = true := decide_eq_true ⟨h1, h2⟩
      rw [e]
      go_enter Tryz.func81, Tryz.ntmps81
      go_wp2_with fail
      go_ret
      exact ⟨rfl, Fr.refl _ w⟩
    · have e : decide (a ≤ b ∧ b ≤ c) = false := decide_eq_false fun h => h2 h.2
      rw [e]
      go_enter Tryz.func81, Tryz.ntmps81
      go_wp2_with fail
      go_ret
      exact ⟨by simp, Fr.refl _ w⟩
  · have e : decide (a ≤ b ∧ b ≤ c) = false := decide_eq_false fun h => h1 h.1
    rw [e]
    go_enter Tryz.func81, Tryz.ntmps81
    go_wp2_with fail
    go_ret
    exact ⟨by simp, Fr.refl _ w⟩
def valB (l : List UInt8) : Bool := decide (l.length ≤ 20) && l.all valCh
theorem valCh_yes {b : UInt8} (h : (97 ≤ b.toNat ∧ b.toNat ≤ 122) ∨ (48 ≤ b.toNat ∧ b.toNat ≤ 57) ∨ b.toNat = 45) : valCh b = true := by
  unfold valCh
  rcases h with h | h | h
  · rw [keyCh_yes (.inl h)]; rfl
  · rw [keyCh_yes (.inr h)]; rfl
  · rw [decide_eq_true h]; simp
theorem valCh_no {b : UInt8} (h : ¬ ((97 ≤ b.toNat ∧ b.toNat ≤ 122) ∨ (48 ≤ b.toNat ∧ b.toNat ≤ 57))) (h2 : ¬ b.toNat = 45) : valCh b = false := by
  unfold valCh
  rw [keyCh_no h, decide_eq_false h2]; rfl
theorem valB_no {l : List UInt8} (k : Nat) (h : k < l.length) (hk : valCh l[k] = false) : valB l = false := by
  unfold valB
  rw [Bool.eq_false_iff]
  intro ho
  simp only [Bool.and_eq_true, List.all_eq_true] at ho
  rw [ho.2 _ (List.getElem_mem h)] at hk
  cases hk
def ValTo (l : List UInt8) (w : World) (i : Value) (wx : World) : Prop := ∃ k : Nat, k ≤ l.length ∧ i = .int .i64 k ∧ (∀ j (h : j < l.length), j < k → valCh l[j] = true) ∧ wx = w
set_option maxRecDepth 100000 in
theorem refValue_any (w : World) (l : List UInt8) (hl : l.length ≤ 140737488355328) : Calls Tryz.prog 183 #[StrV l] w fun e w' => e = .returned (.bool (valB l)) ∧ w = w' := by
  have hsz := str_size l
  have hix : ∀ (w : World) (k : Nat) (h : k < l.length), (Instr.index 9 (.string ⟨l.toArray⟩) (.int .i64 (k : Int))).run Tryz.prog w = .ok (.int .u8 (l[k].toNat : Int)) w := fun w => str_index w l
  show Calls Tryz.prog 183 #[.string ⟨l.toArray⟩] w fun e w' => e = .returned (.bool (valB l)) ∧ w = w'
  generalize (⟨l.toArray⟩ : ByteArray) = s at hsz hix ⊢
  go_enter Tryz.func183, Tryz.ntmps183
  go_wp2_with fail
  go_loopw [3] (fun i wx => ValTo l w i wx) (fun i _ => l.length - (intOf i).toNat)
  case atStart => exact ⟨0, Nat.zero_le _, rfl, fun _ _ h => by omega, rfl⟩
  case round =>
    obtain ⟨k, hk, rfl, hok, rfl⟩ := hrel
    have HK := Lib.hid hok
    clear hok
    by_cases hlt : k < l.length
    · have hx := fun w => hix w k hlt
      obtain ⟨c, hc⟩ : ∃ c : Int, (l[k].toNat : Int) = c := ⟨_, rfl⟩
      rw [hc] at hx
      have HC := Lib.hid hc
      clear hc hix
      by_cases h3 : 97 ≤ c
      · by_cases h4 : c ≤ 122
        · go_wp2_with fail
          go_roundw
          case rel =>
            refine ⟨k + 1, by omega, rfl, fun j hj hjk => ?_, rfl⟩
            by_cases hjk2 : j < k
            · exact HK.out j hj hjk2
            · obtain rfl : j = k := by omega
              have := HC.out
              exact valCh_yes (by omega)
          case measure => simp [intOf]; omega
        · have h5 : 48 ≤ c := by omega
          have h6 : ¬ c ≤ 57 := by omega
          have h7 : ¬ c = 45 := by omega
          have h8 : (c == 45) = false := beq_false_of_ne h7
          go_wp2_with fail
          go_ret
          have := HC.out
          exact ⟨retB (valB_no k hlt (valCh_no (by omega) (by omega))).symm, rfl⟩
      · by_cases h5 : 48 ≤ c
        · by_cases h6 : c ≤ 57
          · go_wp2_with fail
            go_roundw
            case rel =>
              refine ⟨k + 1, by omega, rfl, fun j hj hjk => ?_, rfl⟩
              by_cases hjk2 : j < k
              · exact HK.out j hj hjk2
              · obtain rfl : j = k := by omega
                have := HC.out
                exact valCh_yes (by omega)
            case measure => simp [intOf]; omega
          · have h7 : ¬ c = 45 := by omega
            have h8 : (c == 45) = false := beq_false_of_ne h7
            go_wp2_with fail
            go_ret
            have := HC.out
            exact ⟨retB (valB_no k hlt (valCh_no (by omega) (by omega))).symm, rfl⟩
        · by_cases h7 : c = 45
          · have h8 : (c == 45) = true := by rw [h7]; rfl
            go_wp2_with fail
            go_roundw
            case rel =>
              refine ⟨k + 1, by omega, rfl, fun j hj hjk => ?_, rfl⟩
              by_cases hjk2 : j < k
              · exact HK.out j hj hjk2
              · obtain rfl : j = k := by omega
                have := HC.out
                exact valCh_yes (by omega)
            case measure => simp [intOf]; omega
          · have h8 : (c == 45) = false := beq_false_of_ne h7
            go_wp2_with fail
            go_ret
            have := HC.out
            exact ⟨retB (valB_no k hlt (valCh_no (by omega) (by omega))).symm, rfl⟩
    · go_wp2_with fail
      go_ret
      refine ⟨retB ?_, rfl⟩
      have e : l.all valCh = true := List.all_eq_true.2 fun x hx => by
        obtain ⟨j, hj, rfl⟩ := List.mem_iff_getElem.1 hx
        exact HK.out j hj (by omega)
      unfold valB
      rw [e, Bool.and_true]
      congr 1
      apply propext
      omega
theorem actOk1 (a : ActT) (h : a.kind = 1) : actOk a = (keyOk a.key && (decide (a.val = []) && decide (a.num = 0))) := by
  unfold actOk; rw [if_pos h]
theorem actOk2 (a : ActT) (h : a.kind = 2) : actOk a = (keyOk a.key && (valB a.val && decide (a.num = 0))) := by
  unfold actOk valB; rw [if_neg (by omega), if_pos h]
theorem actOk3 (a : ActT) (h : a.kind = 3) : actOk a = (keyOk a.key && (decide (a.val = []) && decide (-1073741824 ≤ a.num ∧ a.num ≤ 1073741824))) := by
  unfold actOk; rw [if_neg (by omega), if_neg (by omega), if_pos h]
theorem actOk0 (a : ActT) (h : ¬ a.kind = 1 ∧ ¬ a.kind = 2 ∧ ¬ a.kind = 3) : actOk a = false := by
  unfold actOk; rw [if_neg h.1, if_neg h.2.1, if_neg h.2.2]; simp
set_option maxRecDepth 100000 in
set_option maxHeartbeats 2000000 in
theorem refOne_any (w : World) (a : ActT) (hk : 0 ≤ a.kind ∧ a.kind ≤ 255) (h1 : a.key.length ≤ 140737488355328) (h2 : a.val.length ≤ 140737488355328) :
    Calls Tryz.prog 156 #[ActV a] w fun e w' => e = .returned (.bool (actOk a)) ∧ Nw w w' := by
  have hcon := fun w => refKey_any w a.key h1
  have hval := fun w => refValue_any w a.val h2
  have hnil := str_nil a.val
  have a1 := actOk1 a
  have a2 := actOk2 a
  have a3 := actOk3 a
  have a0 := actOk0 a
  generalize actOk a = res at a0 a1 a2 a3 ⊢
  obtain ⟨k, key, val, num⟩ := a
  show Calls Tryz.prog 156 #[.agg #[.int .u8 k, StrV key, .string ⟨val.toArray⟩, I64 num]] w fun e w' => e = .returned (.bool res) ∧ Nw w w'
  simp only at a0 a1 a2 a3 hcon hval hnil hk
  have hval : ∀ w, Calls Tryz.prog 183 #[.string ⟨val.toArray⟩] w fun e w' => e = .returned (.bool (valB val)) ∧ w = w' := hval
  generalize decide (val = []) = n at hnil a1 a3
  generalize valB val = v at hval a2
  generalize keyOk key = q at hcon a1 a2 a3
  generalize (⟨val.toArray⟩ : ByteArray) = s at hnil hval ⊢
  have HH := Lib.hid (And.intro a0 (And.intro a1 (And.intro a2 a3)))
  clear a0 a1 a2 a3
  by_cases k1 : k = 1
  · subst k1
    have E := Lib.hid (HH.out.2.1 rfl)
    clear HH
    by_cases z : num = 0
    · have Z := Lib.hid (decide_eq_true z)
      cases q <;> cases n <;>
      · go_enter Tryz.func156, Tryz.ntmps156
        go_wp2_with (go_at_call 157; refine (hcon _).mono ?_; rintro e w1 ⟨rfl, rfl⟩)
        go_ret
        exact ⟨retB (by rw [E.out, Z.out]; first | rfl | simp [z]), (Fr.refl _ w).alloc _⟩
    · have Z := Lib.hid (decide_eq_false z)
      cases q <;> cases n <;>
      · go_enter Tryz.func156, Tryz.ntmps156
        go_wp2_with (go_at_call 157; refine (hcon _).mono ?_; rintro e w1 ⟨rfl, rfl⟩)
        go_ret
        exact ⟨retB (by rw [E.out, Z.out]; first | rfl | simp [z]), (Fr.refl _ w).alloc _⟩
  · by_cases k2 : k = 2
    · subst k2
      have E := Lib.hid (HH.out.2.2.1 rfl)
      clear HH k1
      by_cases z : num = 0
      · have Z := Lib.hid (decide_eq_true z)
        cases q <;> cases v <;>
        · go_enter Tryz.func156, Tryz.ntmps156
          go_wp2_with (first | (go_at_call 157; refine (hcon _).mono ?_; rintro e w1 ⟨rfl, rfl⟩) | (go_at_call 183; refine (hval _).mono ?_; rintro e w1 ⟨rfl, rfl⟩))
          go_ret
          exact ⟨retB (by rw [E.out, Z.out]; first | rfl | simp [z]), (Fr.refl _ w).alloc _⟩
      · have Z := Lib.hid (decide_eq_false z)
        cases q <;> cases v <;>
        · go_enter Tryz.func156, Tryz.ntmps156
          go_wp2_with (first | (go_at_call 157; refine (hcon _).mono ?_; rintro e w1 ⟨rfl, rfl⟩) | (go_at_call 183; refine (hval _).mono ?_; rintro e w1 ⟨rfl, rfl⟩))
          go_ret
          exact ⟨retB (by rw [E.out, Z.out]; first | rfl | simp [z]), (Fr.refl _ w).alloc _⟩
    · by_cases k3 : k = 3
      · subst k3
        have E := Lib.hid (HH.out.2.2.2 rfl)
        clear HH k1 k2
        by_cases z : -1073741824 ≤ num
        · by_cases y : num ≤ 1073741824
          · have Z := Lib.hid (decide_eq_true (And.intro z y))
            cases q <;> cases n <;>
            · go_enter Tryz.func156, Tryz.ntmps156
              go_wp2_with (go_at_call 157; refine (hcon _).mono ?_; rintro e w1 ⟨rfl, rfl⟩)
              go_ret
              exact ⟨retB (by rw [E.out, Z.out]; first | rfl | simp [z]), (Fr.refl _ w).alloc _⟩
          · have Z := Lib.hid (decide_eq_false (fun h => y h.2 : ¬ (-1073741824 ≤ num ∧ num ≤ 1073741824)))
            cases q <;> cases n <;>
            · go_enter Tryz.func156, Tryz.ntmps156
              go_wp2_with (go_at_call 157; refine (hcon _).mono ?_; rintro e w1 ⟨rfl, rfl⟩)
              go_ret
              exact ⟨retB (by rw [E.out, Z.out]; first | (simp; done) | (simp; omega)), (Fr.refl _ w).alloc _⟩
        · have Z := Lib.hid (decide_eq_false (fun h => z h.1 : ¬ (-1073741824 ≤ num ∧ num ≤ 1073741824)))
          cases q <;> cases n <;>
          · go_enter Tryz.func156, Tryz.ntmps156
            go_wp2_with (go_at_call 157; refine (hcon _).mono ?_; rintro e w1 ⟨rfl, rfl⟩)
            go_ret
            exact ⟨retB (by rw [E.out, Z.out]; first | (simp; done) | (simp; omega)), (Fr.refl _ w).alloc _⟩
      · have E := Lib.hid (HH.out.1 ⟨k1, k2, k3⟩)
        clear HH
        go_enter Tryz.func156, Tryz.ntmps156
        go_wp2_with fail
        go_ret
        exact ⟨retB (by rw [E.out]), (Fr.refl _ w).alloc _⟩
set_option maxRecDepth 100000 in
theorem refActs_any (w : World) (F : Nat → Prop) (A : Option Addr) (c : Nat) (l : List ActT) (hs : Sl w F A (actsCells l)) (hl : l.length ≤ 1000000000) (hz : ActSz l) :
    Calls Tryz.prog 112 #[.slice A l.length c] w fun e w' => e = .returned (.bool (actsOk l)) ∧ Nw w w' := by
  obtain ⟨res, hres⟩ : ∃ res, (actsOk l) = res := ⟨_, rfl⟩
  rw [hres]
  have HR := Lib.hid hres
  clear hres
  go_enter Tryz.func112, Tryz.ntmps112
  go_wp2_with fail
  go_loopw [3] (fun i wx => ActTo w l i wx) (fun i _ => l.length - (intOf i).toNat)
  case atStart => exact ⟨0, Nat.zero_le _, rfl, fun _ _ h => by omega, Fr.refl _ _⟩
  case round =>
    obtain ⟨k, hk, rfl, hok, hq⟩ := hrel
    have HK := Lib.hid hok
    clear hok
    by_cases hlt : k < l.length
    · obtain ⟨b, o, rfl, hF, hc1, hc2, hc3, hc4⟩ := (hs.fr hq (fun _ _ h => h)).act hlt
      have hzk := hz _ (List.getElem_mem hlt)
      have hcon := fun w => refOne_any w l[k] hzk.1 hzk.2.1 hzk.2.2
      clear hzk
      obtain ⟨p, hp⟩ : ∃ p, actOk l[k] = p := ⟨_, rfl⟩
      rw [hp] at hcon
      have HP := Lib.hid hp
      clear hp
      cases p
      · go_wp2_with (go_at_call 156; refine (hcon _).mono ?_; rintro e w1 ⟨rfl, q1⟩)
        go_ret
        refine ⟨retB ?_, hq.tr q1⟩
        have hn : l.all actOk = false := Bool.eq_false_iff.2 fun h => by
          have := List.all_eq_true.1 h _ (List.getElem_mem hlt)
          rw [HP.out] at this
          cases this
        rw [← HR.out]
        try unfold actsOk
        rw [hn, Bool.and_false]
      · go_wp2_with (go_at_call 156; refine (hcon _).mono ?_; rintro e w1 ⟨rfl, q1⟩)
        go_roundw
        case rel =>
          refine ⟨k + 1, by omega, rfl, fun j hj hjk => ?_, hq.tr q1⟩
          by_cases hjk2 : j < k
          · exact HK.out j hj hjk2
          · obtain rfl : j = k := by omega
            exact HP.out
        case measure => simp [intOf]; omega
    · have e : l.all actOk = true := List.all_eq_true.2 fun x hx => by
        obtain ⟨j, hj, rfl⟩ := List.mem_iff_getElem.1 hx
        exact HK.out j hj (by omega)
      have E := Lib.hid e
      clear e
      have e0 : actsOk l = (decide (1 ≤ l.length ∧ l.length ≤ 6) && l.all actOk) := rfl
      rw [HR.out, E.out, Bool.and_true] at e0
      have E0 := Lib.hid e0
      clear e0
      by_cases h1 : 1 ≤ l.length
      · have d1 : decide ((1 : Int) ≤ (l.length : Int)) = true := decide_eq_true (by omega)
        go_wp2_with fail
        go_ret
        refine ⟨retB ?_, hq⟩
        rw [E0.out]
        by_cases h6 : l.length ≤ 6
        · rw [decide_eq_true (⟨h1, h6⟩ : 1 ≤ l.length ∧ l.length ≤ 6)]
          exact decide_eq_true (by omega)
        · rw [decide_eq_false (fun h => h6 h.2 : ¬ (1 ≤ l.length ∧ l.length ≤ 6))]
          exact decide_eq_false (by omega)
      · have d1 : decide ((1 : Int) ≤ (l.length : Int)) = false := decide_eq_false (by omega)
        go_wp2_with fail
        go_ret
        refine ⟨retB ?_, hq⟩
        rw [E0.out]
        exact (decide_eq_false (fun h => h1 h.1)).symm
set_option maxRecDepth 100000 in
theorem refReads_any (w : World) (F : Nat → Prop) (A : Option Addr) (c : Nat) (l : List Rdg) (hs : Sl w F A (rdgsCells l)) (hl : l.length ≤ 1000000000) (hz : RdgSz l) :
    Calls Tryz.prog 87 #[.slice A l.length c] w fun e w' => e = .returned (.bool (decide (l.length ≤ 6) && l.all rdgOk)) ∧ Nw w w' := by
  obtain ⟨res, hres⟩ : ∃ res, (decide (l.length ≤ 6) && l.all rdgOk) = res := ⟨_, rfl⟩
  rw [hres]
  have HR := Lib.hid hres
  clear hres
  go_enter Tryz.func87, Tryz.ntmps87
  go_wp2_with fail
  go_loopw [3] (fun i wx => RdgTo w l i wx) (fun i _ => l.length - (intOf i).toNat)
  case atStart => exact ⟨0, Nat.zero_le _, rfl, fun _ _ h => by omega, Fr.refl _ _⟩
  case round =>
    obtain ⟨k, hk, rfl, hok, hq⟩ := hrel
    have HK := Lib.hid hok
    clear hok
    by_cases hlt : k < l.length
    · obtain ⟨b, o, rfl, hF, hc1, hc2, hc3⟩ := (hs.fr hq (fun _ _ h => h)).rdg hlt
      have hzk := hz _ (List.getElem_mem hlt)
      have hcon := fun w => readRight_any w l[k] hzk.1 hzk.2
      clear hzk
      obtain ⟨p, hp⟩ : ∃ p, rdgOk l[k] = p := ⟨_, rfl⟩
      rw [hp] at hcon
      have HP := Lib.hid hp
      clear hp
      cases p
      · go_wp2_with (go_at_call 136; refine (hcon _).mono ?_; rintro e w1 ⟨rfl, q1⟩)
        go_ret
        refine ⟨retB ?_, hq.tr q1⟩
        have hn : l.all rdgOk = false := Bool.eq_false_iff.2 fun h => by
          have := List.all_eq_true.1 h _ (List.getElem_mem hlt)
          rw [HP.out] at this
          cases this
        rw [← HR.out]
        try unfold actsOk
        rw [hn, Bool.and_false]
      · go_wp2_with (go_at_call 136; refine (hcon _).mono ?_; rintro e w1 ⟨rfl, q1⟩)
        go_roundw
        case rel =>
          refine ⟨k + 1, by omega, rfl, fun j hj hjk => ?_, hq.tr q1⟩
          by_cases hjk2 : j < k
          · exact HK.out j hj hjk2
          · obtain rfl : j = k := by omega
            exact HP.out
        case measure => simp [intOf]; omega
    · have e : l.all rdgOk = true := List.all_eq_true.2 fun x hx => by
        obtain ⟨j, hj, rfl⟩ := List.mem_iff_getElem.1 hx
        exact HK.out j hj (by omega)
      have E := Lib.hid e
      clear e
      go_wp2_with fail
      go_ret
      refine ⟨retB ?_, hq⟩
      rw [← HR.out, E.out, Bool.and_true]
      congr 1
      apply propext
      omega
end Go.Proofs.YtkjnlhidnkbelaaGreatDoor

namespace Go.Proofs.YtkjnlhidnkbelaaGreatDoor
open Go Go.RowKit

/-- The mark of a place in a list of bytes. -/
def mkB (k i : Nat) : UInt8 := UInt8.ofNat ((1000003 * (k + 7) + i) * 11400714819323198485 % 18446744073709551616 / 72057594037927936)
theorem mkB_int (k i : Nat) :
    IntKind.u64.wrap ((1000003 * ((k : Int) + 7) + (i : Int)) * 11400714819323198485) / 72057594037927936 % 256 = ((mkB k i).toNat : Int) := by
  unfold mkB
  rw [UInt8.toNat_ofNat']
  have e : (1000003 * ((k : Int) + 7) + (i : Int)) * 11400714819323198485 = (((1000003 * (k + 7) + i) * 11400714819323198485 : Nat) : Int) := by omega
  rw [e]
  generalize (1000003 * (k + 7) + i) * 11400714819323198485 = Y
  simp only [IntKind.wrap_u64]
  omega

theorem mark_any (w : World) (k i : Int) (hk : 0 ≤ k) (hk2 : k ≤ 1000000000000) (hi : 0 ≤ i) (hi2 : i ≤ 100000000000000) :
    Calls Tryz.prog 109 #[.int .i64 k, .int .i64 i] w fun e w' => e = .returned (.int .i64 (1000003 * (k + 7) + i)) ∧ w = w' := by
  go_enter Tryz.func109, Tryz.ntmps109
  go_wp2
  go_ret
  exact ⟨rfl, rfl⟩

theorem markByte_any (w : World) (k i : Int) (hk : 0 ≤ k) (hk2 : k ≤ 1000000000000) (hi : 0 ≤ i) (hi2 : i ≤ 100000000000000) :
    Calls Tryz.prog 73 #[.int .i64 k, .int .i64 i] w fun e w' => e = .returned (B8 (mkB k.toNat i.toNat)) ∧ w = w' := by
  obtain ⟨k', rfl⟩ := Int.eq_ofNat_of_zero_le hk
  obtain ⟨i', rfl⟩ := Int.eq_ofNat_of_zero_le hi
  go_enter Tryz.func73, Tryz.ntmps73
  go_wp2_with (go_at_call 109; refine (mark_any _ _ _ hk hk2 hi hi2).mono ?_; rintro e w1 ⟨rfl, rfl⟩)
  go_ret
  refine ⟨ret_eq ?_, rfl⟩
  show Value.int IntKind.u8 _ = Value.int IntKind.u8 _
  rw [Int.toNat_natCast, Int.toNat_natCast, ← mkB_int k' i']

/-- The marks behind what is lent. -/
def behind : List UInt8 := (List.range 12).map (mkB 1)
/-- What 'LentBytes' hands out: a slice with marks in its spare room. -/
def Lent (w : World) (A : Option Addr) (ys : List UInt8) : Prop := Own w 5 1 A (ys.length + 12) (ys.length + 12) ((ys ++ behind).map B8)

def LentRel (w : World) (g : Nat) (ys : List UInt8) (v i : Value) (wr : World) : Prop :=
  ∃ k : Nat, k ≤ 12 ∧ i = .int .i64 k ∧ v = .slice (some ⟨g, 0, none⟩) (ys.length + k) (ys.length + 12) ∧ Own wr 5 1 (some ⟨g, 0, none⟩) (ys.length + k) (ys.length + 12) ((ys ++ (List.range k).map (mkB 1)).map B8) ∧ Nw w wr

set_option maxRecDepth 100000 in
theorem lent_u8 (w : World) (F : Nat → Prop) (A : Option Addr) (c : Nat) (ys : List UInt8) (h : Sl w F A (ys.map B8)) (hsz : ys.length ≤ 1000000000000) :
    Calls Tryz.prog 26 #[.slice A ys.length c] w fun e w' => ∃ g, e = .returned (.slice (some ⟨g, 0, none⟩) ys.length (ys.length + 12)) ∧ Lent w' (some ⟨g, 0, none⟩) ys ∧ Nw w w' ∧ w.heap.size ≤ g := by
  go_enter Tryz.func26, Tryz.ntmps26
  go_wp2_with (first | (at_make; refine wl_make0 rfl _ _ _ rfl 1 (.int .u8 0) Tryz.underlying22 info_u8 .i64 .i64 ((ys.length : Int) + 12) (ys.length + 12) rfl rfl (by omega) (by omega) (by unfold maxLen; omega) ?_; intro w1 ho1 hq1; have hs1 := h.fr hq1 (fun _ _ h => h)) | (at_builtin; refine wl_append2 rfl _ _ _ rfl 1 (.int .u8 0) Tryz.underlying22 info_u8 rfl (by decide) rfl ho1 rfl hs1 (by simp) (B8_oneCell ys) (by omega) (by unfold maxLen; omega) ?_; intro A' cap' w2 hap))
  rcases hap with ⟨ho2, _, ⟨_, rfl, rfl, hf2⟩ | ⟨hlt, _⟩⟩
  rotate_left
  · omega
  simp only [Nat.zero_add, List.nil_append] at ho2 ⊢
  have hq2 : Nw w w2 := hq1.new hf2 (fun k hk => by rw [(inA_some _ _).1 hk]; exact Nat.le_refl _)
  clear hf2 ho1 hs1 hq1
  go_wp2_with fail
  go_loopw [3, 4] (fun v i wr => LentRel w w.heap.size ys v i wr) (fun _ i _ => 12 - (intOf i).toNat)
  case atStart => exact ⟨0, by omega, rfl, rfl, by simpa using ho2, hq2⟩
  case round =>
    obtain ⟨k, hk, rfl, rfl, ho, hq⟩ := hrel
    by_cases hlt : k < 12
    · go_wp2_with (first | (go_at_call 73; refine (markByte_any _ _ _ (by omega) (by omega) (by omega) (by omega)).mono ?_; rintro e w3 ⟨rfl, rfl⟩) | (at_builtin; refine wl_append2 rfl _ _ _ rfl 1 (.int .u8 0) Tryz.underlying22 info_u8 rfl (by decide) rfl (ho.alloc _) rfl ((Blk.new _ _ _).sl 0 1) rfl (B8_oneCell [mkB 1 k]) (by omega) (by unfold maxLen; omega) ?_; intro A' cap' w2 hap))
      rcases hap with ⟨ho3, _, ⟨_, rfl, rfl, hf3⟩ | ⟨hlt, _⟩⟩
      rotate_left
      · omega
      have hq3 : Nw w w2 := (hq.alloc _).new hf3 (fun k hk => by rw [(inA_some _ _).1 hk]; exact Nat.le_refl _)
      go_wp2_with fail
      go_roundw
      case rel =>
        refine ⟨k + 1, by omega, by go_num, by simp [Nat.add_assoc], ?_, hq3⟩
        rw [List.range_succ]
        have e : ys.length + (k + 1) = ys.length + k + 1 := by omega
        rw [e]
        simpa [Int.toNat_natCast] using ho3
      case measure => simp [intOf]; omega
    · have hk12 : k = 12 := by omega
      subst hk12
      have hs := slice_h (P := Tryz.prog) 22 under_bytes 1 size_bytes (some ⟨w.heap.size, 0, none⟩) (ys.length + 12) (ys.length + 12) ys.length (by omega)
      go_wp2_with fail
      go_ret
      exact ⟨_, rfl, ho, hq, Nat.le_refl _⟩

theorem quiet_left {P : Program} {f : FuncId} {args : Array Value} {w : World} {n : Nat} {v : Value}
    (h : Calls P f args (w.drewN n) fun e w' => e = .returned v ∧ w.drewN n = w') : Calls P f args (w.drewN n) fun e w'' => e = .returned v ∧ ∃ m, w'' = w.drewN m :=
  h.mono fun _ _ ⟨he, hw⟩ => ⟨he, n, hw.symm⟩
def KeptRel (w : World) (ys : List UInt8) (i : Value) (wr : World) : Prop := ∃ k : Nat, k ≤ ys.length + 12 ∧ i = .int .i64 k ∧ Quiet w wr

set_option maxRecDepth 100000 in
set_option maxHeartbeats 1000000 in
theorem kept_u8 (w : World) (F : Nat → Prop) (A1 A2 : Option Addr) (c2 : Nat) (ys : List UInt8) (h1 : Lent w A1 ys) (h2 : Sl w F A2 (ys.map B8)) (hsz : ys.length ≤ 1000000000000) :
    Calls Tryz.prog 31 #[.slice A1 ys.length (ys.length + 12), .slice A2 ys.length c2] w fun e w' => e = .returned (.bool true) ∧ Quiet w w' := by
  have hs := slice_h (P := Tryz.prog) 22 under_bytes 1 size_bytes A1 ys.length (ys.length + 12) (ys.length + 12) (Nat.le_refl _)
  go_enter Tryz.func31, Tryz.ntmps31
  go_wp2_with fail
  go_loopw [6] (fun i wr => KeptRel w ys i wr) (fun i _ => ys.length + 12 - (intOf i).toNat)
  case atStart => exact ⟨0, by omega, rfl, Quiet.refl _⟩
  case round =>
    obtain ⟨k, hk, rfl, hq⟩ := hrel
    by_cases hlt : k < ys.length + 12
    · obtain ⟨b1, o1, rfl, _, hc1⟩ := h1.sl.get (k := k) (by simp [behind]; omega)
      rw [← hq.cell] at hc1
      have hi0 : (k : Int) < (ys.length : Int) + 12 := by omega
      by_cases hlt2 : k < ys.length
      · obtain ⟨b2, o2, rfl, _, hc2⟩ := h2.get hlt2
        rw [← hq.cell] at hc2
        rw [List.getElem_append_left hlt2] at hc1
        have hi1 : (k : Int) < (ys.length : Int) := by omega
        have hi2 : decide ((ys.length : Int) ≤ (k : Int)) = false := by simp; omega
        have hi3 : decide (ys.length ≤ k) = false := by simp; omega
        go_wp2_with fail
        go_quiet (fail)
        go_wp2_with fail
        go_roundw
        case rel => exact ⟨k + 1, by omega, by go_num, hq.drewN _⟩
        case measure => simp [intOf]; omega
      · rw [List.getElem_append_right (by omega)] at hc1
        have hv : behind[k - ys.length]'(by simp [behind]; omega) = mkB 1 (k - ys.length) := by simp [behind]
        rw [hv] at hc1
        clear hv
        have hi1 : decide ((k : Int) < (ys.length : Int)) = false := by simp; omega
        have hi3 : decide (k < ys.length) = false := by simp; omega
        have hi2 : (ys.length : Int) ≤ (k : Int) := by omega
        have hmk := fun w => markByte_any w 1 ((k : Int) - (ys.length : Int)) (by omega) (by omega) (by omega) (by omega)
        have hk2 : ((k : Int) - (ys.length : Int)).toNat = k - ys.length := by omega
        rw [hk2] at hmk
        clear hk2
        have HM := Lib.hid hmk
        clear hmk
        have hwr : IntKind.i64.wrap ((k : Int) - (ys.length : Int)) = (k : Int) - (ys.length : Int) := IntWalk.i64_in _ (by omega)
        go_wp2_with fail
        go_quiet ((go_at_call 73; exact quiet_left (HM.out _)))
        go_wp2_with fail
        go_roundw
        case rel => exact ⟨k + 1, by omega, by go_num, hq.drewN _⟩
        case measure => simp [intOf]; omega
    · go_wp2_with fail
      go_ret
      exact ⟨rfl, hq⟩

/-? kit_OverBytes -/
end Go.Proofs.YtkjnlhidnkbelaaGreatDoor

namespace Go.Proofs.YtkjnlhidnkbelaaGreatDoor
open Go Go.RowKit
set_option maxRecDepth 100000 in
set_option maxHeartbeats 8000000 in
theorem rsame_any (w : World) (F1 F2 : Nat → Prop) (x y : OrdF) (p q : Pl) (hx : OrdIn w F1 x p) (hy : OrdIn w F2 y q) (hzx : OrdSz x) :
    Calls Tryz.prog 18 #[.agg (ofA (I64 x.kind) x p), .agg (ofA (I64 y.kind) y q)] w fun e w' => e = .returned (.bool (decide (x = y))) ∧ Nw w w' := by
  rw [ordF_eqk x y]
  obtain ⟨W0, hW0⟩ : ∃ W0, W0 = w.alloc (.cells (ofA (I64 x.kind) x p) 55) := ⟨_, rfl⟩
  have q0 : Nw w W0 := by rw [hW0]; exact (Fr.refl (fun _ => False) w).alloc _
  have x0 : Blk W0 w.heap.size 55 (ofA (I64 x.kind) x p) := by rw [hW0]; exact Blk.new w _ _
  have hz0 : W0.heap.size = w.heap.size + 1 := by rw [hW0]; simp
  obtain ⟨W1, hW1⟩ : ∃ W1, W1 = W0.alloc (.cells (ofA (I64 y.kind) y q) 55) := ⟨_, rfl⟩
  have q1 : Nw W0 W1 := by rw [hW1]; exact (Fr.refl (fun _ => False) W0).alloc _
  have y1 : Blk W1 (w.heap.size + 1) 55 (ofA (I64 y.kind) y q) := by rw [hW1, ← hz0]; exact Blk.new W0 _ _
  have x1 := x0.fr q1 (fun h => h)
  have q01 := q0.tr q1
  obtain ⟨d1, e1⟩ : ∃ d, decide (x.kind = y.kind) = d := ⟨_, rfl⟩
  have z1 : (x.kind == y.kind) = d1 := (beq_int _ _).trans e1
  obtain ⟨d2, e2⟩ : ∃ d, decide (x.nm = y.nm) = d := ⟨_, rfl⟩
  have z2 := fun w => name_eql w x.nm y.nm
  simp only [e2] at z2
  obtain ⟨d3, e3⟩ : ∃ d, decide (x.epoch = y.epoch) = d := ⟨_, rfl⟩
  have z3 : (x.epoch == y.epoch) = d3 := (beq_int _ _).trans e3
  obtain ⟨d4, e4⟩ : ∃ d, decide (x.acts = y.acts) = d := ⟨_, rfl⟩
  have z4 : ∀ w1, Nw W1 w1 → Calls Tryz.prog 67 #[.slice p.a x.acts.length p.ca, .slice q.a y.acts.length q.ca] w1 fun e w' => e = .returned (.bool d4) ∧ Nw w1 w' := fun w1 f => by
    rw [← e4]
    exact sameActs_any w1 F1 F2 p.a q.a p.ca q.ca x.acts y.acts (hx.acts.fr (q01.tr f) (fun _ _ h => h)) (hy.acts.fr (q01.tr f) (fun _ _ h => h)) hzx.acts.1
  obtain ⟨d5, e5⟩ : ∃ d, decide (x.commit = y.commit) = d := ⟨_, rfl⟩
  have z5 : (x.commit == y.commit) = d5 := (beq_bool _ _).trans e5
  obtain ⟨d6, e6⟩ : ∃ d, decide (x.reads = y.reads) = d := ⟨_, rfl⟩
  have z6 : ∀ w1, Nw W1 w1 → Calls Tryz.prog 68 #[.slice p.r x.reads.length p.cr, .slice q.r y.reads.length q.cr] w1 fun e w' => e = .returned (.bool d6) ∧ Nw w1 w' := fun w1 f => by
    rw [← e6]
    exact sameReads_any w1 F1 F2 p.r q.r p.cr q.cr x.reads y.reads (hx.reads.fr (q01.tr f) (fun _ _ h => h)) (hy.reads.fr (q01.tr f) (fun _ _ h => h)) hzx.reads.1
  obtain ⟨d7, e7⟩ : ∃ d, decide (x.scheme = y.scheme) = d := ⟨_, rfl⟩
  have z7 : (x.scheme == y.scheme) = d7 := (beq_int _ _).trans e7
  obtain ⟨d8, e8⟩ : ∃ d, decide (x.stage = y.stage) = d := ⟨_, rfl⟩
  have z8 : (x.stage == y.stage) = d8 := (beq_int _ _).trans e8
  obtain ⟨d9, e9⟩ : ∃ d, decide (x.to = y.to) = d := ⟨_, rfl⟩
  have z9 : (x.to == y.to) = d9 := (beq_int _ _).trans e9
  obtain ⟨d10, e10⟩ : ∃ d, decide (x.lo = y.lo ∧ x.hi = y.hi) = d := ⟨_, rfl⟩
  have z10 := fun w => span_eql w x.lo x.hi y.lo y.hi
  simp only [e10] at z10
  obtain ⟨d11, e11⟩ : ∃ d, decide (x.bytes = y.bytes) = d := ⟨_, rfl⟩
  have z11 : ∀ w1, Nw W1 w1 → Calls Tryz.prog 23 #[.slice p.b x.bytes.length p.cb, .slice q.b y.bytes.length q.cb] w1 fun e w' => e = .returned (.bool d11) ∧ Nw w1 w' := fun w1 f => by
    rw [← e11]
    exact (same_u8 w1 F1 F2 p.b q.b p.cb q.cb x.bytes y.bytes (hx.bytes.fr (q01.tr f) (fun _ _ h => h)) (hy.bytes.fr (q01.tr f) (fun _ _ h => h)) (by have := hzx.bytes; omega)).mono fun e w' h => ⟨h.1, h.2.fr _⟩
  rw [e1, e2, e3, e4, e5, e6, e7, e8, e9, e10, e11]
  have hS : ∀ w1, Nw W1 w1 → w1.cell? ⟨w.heap.size, 0, none⟩ = some (I64 x.kind) ∧ w1.cell? ⟨w.heap.size, 1, none⟩ = some (I64 x.nm.1) ∧ w1.cell? ⟨w.heap.size, 2, none⟩ = some (I64 x.nm.2) ∧ w1.cell? ⟨w.heap.size, 3, none⟩ = some (I64 x.epoch) ∧ w1.cell? ⟨w.heap.size, 4, none⟩ = some (.slice p.a x.acts.length p.ca) ∧ w1.cell? ⟨w.heap.size, 5, none⟩ = some (.bool x.commit) ∧ w1.cell? ⟨w.heap.size, 6, none⟩ = some (.slice p.r x.reads.length p.cr) ∧ w1.cell? ⟨w.heap.size, 7, none⟩ = some (I64 x.scheme) ∧ w1.cell? ⟨w.heap.size, 8, none⟩ = some (I64 x.stage) ∧ w1.cell? ⟨w.heap.size, 9, none⟩ = some (I64 x.to) ∧ w1.cell? ⟨w.heap.size, 10, none⟩ = some (StrV x.lo) ∧ w1.cell? ⟨w.heap.size, 11, none⟩ = some (StrV x.hi) ∧ w1.cell? ⟨w.heap.size, 12, none⟩ = some (.slice p.b x.bytes.length p.cb) ∧ w1.cell? ⟨w.heap.size + 1, 0, none⟩ = some (I64 y.kind) ∧ w1.cell? ⟨w.heap.size + 1, 1, none⟩ = some (I64 y.nm.1) ∧ w1.cell? ⟨w.heap.size + 1, 2, none⟩ = some (I64 y.nm.2) ∧ w1.cell? ⟨w.heap.size + 1, 3, none⟩ = some (I64 y.epoch) ∧ w1.cell? ⟨w.heap.size + 1, 4, none⟩ = some (.slice q.a y.acts.length q.ca) ∧ w1.cell? ⟨w.heap.size + 1, 5, none⟩ = some (.bool y.commit) ∧ w1.cell? ⟨w.heap.size + 1, 6, none⟩ = some (.slice q.r y.reads.length q.cr) ∧ w1.cell? ⟨w.heap.size + 1, 7, none⟩ = some (I64 y.scheme) ∧ w1.cell? ⟨w.heap.size + 1, 8, none⟩ = some (I64 y.stage) ∧ w1.cell? ⟨w.heap.size + 1, 9, none⟩ = some (I64 y.to) ∧ w1.cell? ⟨w.heap.size + 1, 10, none⟩ = some (StrV y.lo) ∧ w1.cell? ⟨w.heap.size + 1, 11, none⟩ = some (StrV y.hi) ∧ w1.cell? ⟨w.heap.size + 1, 12, none⟩ = some (.slice q.b y.bytes.length q.cb) := fun w1 f => by
    have a := x1.fr f (fun h => h)
    have b := y1.fr f (fun h => h)
    exact ⟨by simpa using a.cell 0, by simpa using a.cell 1, by simpa using a.cell 2, by simpa using a.cell 3, by simpa using a.cell 4, by simpa using a.cell 5, by simpa using a.cell 6, by simpa using a.cell 7, by simpa using a.cell 8, by simpa using a.cell 9, by simpa using a.cell 10, by simpa using a.cell 11, by simpa using a.cell 12, by simpa using b.cell 0, by simpa using b.cell 1, by simpa using b.cell 2, by simpa using b.cell 3, by simpa using b.cell 4, by simpa using b.cell 5, by simpa using b.cell 6, by simpa using b.cell 7, by simpa using b.cell 8, by simpa using b.cell 9, by simpa using b.cell 10, by simpa using b.cell 11, by simpa using b.cell 12⟩
  have HW0 := Lib.hid hW0
  have HW1 := Lib.hid hW1
  have hS1 := hS W1 (Fr.refl _ _)
  clear hW0 hW1 x0 y1 x1 hx hy e1 e2 e3 e4 e5 e6 e7 e8 e9 e10 e11
  cases d1 with
  | false =>
    go_enter Tryz.func18, Tryz.ntmps18
    go_wp2_with fail
    go_ret
    exact ⟨by simp, by have h := q01; rw [HW1.out, HW0.out] at h; exact h⟩
  | true =>
    cases d2 with
    | false =>
      go_enter Tryz.func18, Tryz.ntmps18
      go_wp2_with fail
      go_ret
      exact ⟨by simp, by have h := q01; rw [HW1.out, HW0.out] at h; exact h⟩
    | true =>
      cases d3 with
      | false =>
        go_enter Tryz.func18, Tryz.ntmps18
        go_wp2_with fail
        go_ret
        exact ⟨by simp, by have h := q01; rw [HW1.out, HW0.out] at h; exact h⟩
      | true =>
        cases d4 with
        | false =>
          go_enter Tryz.func18, Tryz.ntmps18
          go_wp2_with fail
          rw [← HW0.out, ← HW1.out]
          refine (z4 _ (Fr.refl _ W1)).mono ?_
          rintro e v1 ⟨rfl, r1⟩
          have Q1 := (Fr.refl (fun _ => False) W1).tr r1
          go_wp2_with fail
          go_ret
          exact ⟨by simp, q01.tr Q1⟩
        | true =>
          cases d5 with
          | false =>
            go_enter Tryz.func18, Tryz.ntmps18
            go_wp2_with fail
            rw [← HW0.out, ← HW1.out]
            refine (z4 _ (Fr.refl _ W1)).mono ?_
            rintro e v1 ⟨rfl, r1⟩
            have Q1 := (Fr.refl (fun _ => False) W1).tr r1
            obtain ⟨k0, k1, k2, k3, k4, k5, k6, k7, k8, k9, k10, k11, k12, k13, k14, k15, k16, k17, k18, k19, k20, k21, k22, k23, k24, k25⟩ := hS v1 Q1
            go_wp2_with fail
            go_ret
            exact ⟨by simp, q01.tr Q1⟩
          | true =>
            cases d6 with
            | false =>
              go_enter Tryz.func18, Tryz.ntmps18
              go_wp2_with fail
              rw [← HW0.out, ← HW1.out]
              refine (z4 _ (Fr.refl _ W1)).mono ?_
              rintro e v1 ⟨rfl, r1⟩
              have Q1 := (Fr.refl (fun _ => False) W1).tr r1
              obtain ⟨k0, k1, k2, k3, k4, k5, k6, k7, k8, k9, k10, k11, k12, k13, k14, k15, k16, k17, k18, k19, k20, k21, k22, k23, k24, k25⟩ := hS v1 Q1
              go_wp2_with fail
              refine (z6 _ Q1).mono ?_
              rintro e v2 ⟨rfl, r2⟩
              have Q2 := Q1.tr r2
              go_wp2_with fail
              go_ret
              exact ⟨by simp, q01.tr Q2⟩
            | true =>
              cases d7 with
              | false =>
                go_enter Tryz.func18, Tryz.ntmps18
                go_wp2_with fail
                rw [← HW0.out, ← HW1.out]
                refine (z4 _ (Fr.refl _ W1)).mono ?_
                rintro e v1 ⟨rfl, r1⟩
                have Q1 := (Fr.refl (fun _ => False) W1).tr r1
                obtain ⟨k0, k1, k2, k3, k4, k5, k6, k7, k8, k9, k10, k11, k12, k13, k14, k15, k16, k17, k18, k19, k20, k21, k22, k23, k24, k25⟩ := hS v1 Q1
                go_wp2_with fail
                refine (z6 _ Q1).mono ?_
                rintro e v2 ⟨rfl, r2⟩
                have Q2 := Q1.tr r2
                obtain ⟨k0, k1, k2, k3, k4, k5, k6, k7, k8, k9, k10, k11, k12, k13, k14, k15, k16, k17, k18, k19, k20, k21, k22, k23, k24, k25⟩ := hS v2 Q2
                go_wp2_with fail
                go_ret
                exact ⟨by simp, q01.tr Q2⟩
              | true =>
                cases d8 with
                | false =>
                  go_enter Tryz.func18, Tryz.ntmps18
                  go_wp2_with fail
                  rw [← HW0.out, ← HW1.out]
                  refine (z4 _ (Fr.refl _ W1)).mono ?_
                  rintro e v1 ⟨rfl, r1⟩
                  have Q1 := (Fr.refl (fun _ => False) W1).tr r1
                  obtain ⟨k0, k1, k2, k3, k4, k5, k6, k7, k8, k9, k10, k11, k12, k13, k14, k15, k16, k17, k18, k19, k20, k21, k22, k23, k24, k25⟩ := hS v1 Q1
                  go_wp2_with fail
                  refine (z6 _ Q1).mono ?_
                  rintro e v2 ⟨rfl, r2⟩
                  have Q2 := Q1.tr r2
                  obtain ⟨k0, k1, k2, k3, k4, k5, k6, k7, k8, k9, k10, k11, k12, k13, k14, k15, k16, k17, k18, k19, k20, k21, k22, k23, k24, k25⟩ := hS v2 Q2
                  go_wp2_with fail
                  go_ret
                  exact ⟨by simp, q01.tr Q2⟩
                | true =>
                  cases d9 with
                  | false =>
                    go_enter Tryz.func18, Tryz.ntmps18
                    go_wp2_with fail
                    rw [← HW0.out, ← HW1.out]
                    refine (z4 _ (Fr.refl _ W1)).mono ?_
                    rintro e v1 ⟨rfl, r1⟩
                    have Q1 := (Fr.refl (fun _ => False) W1).tr r1
                    obtain ⟨k0, k1, k2, k3, k4, k5, k6, k7, k8, k9, k10, k11, k12, k13, k14, k15, k16, k17, k18, k19, k20, k21, k22, k23, k24, k25⟩ := hS v1 Q1
                    go_wp2_with fail
                    refine (z6 _ Q1).mono ?_
                    rintro e v2 ⟨rfl, r2⟩
                    have Q2 := Q1.tr r2
                    obtain ⟨k0, k1, k2, k3, k4, k5, k6, k7, k8, k9, k10, k11, k12, k13, k14, k15, k16, k17, k18, k19, k20, k21, k22, k23, k24, k25⟩ := hS v2 Q2
                    go_wp2_with fail
                    go_ret
                    exact ⟨by simp, q01.tr Q2⟩
                  | true =>
                    cases d10 with
                    | false =>
                      go_enter Tryz.func18, Tryz.ntmps18
                      go_wp2_with fail
                      rw [← HW0.out, ← HW1.out]
                      refine (z4 _ (Fr.refl _ W1)).mono ?_
                      rintro e v1 ⟨rfl, r1⟩
                      have Q1 := (Fr.refl (fun _ => False) W1).tr r1
                      obtain ⟨k0, k1, k2, k3, k4, k5, k6, k7, k8, k9, k10, k11, k12, k13, k14, k15, k16, k17, k18, k19, k20, k21, k22, k23, k24, k25⟩ := hS v1 Q1
                      go_wp2_with fail
                      refine (z6 _ Q1).mono ?_
                      rintro e v2 ⟨rfl, r2⟩
                      have Q2 := Q1.tr r2
                      obtain ⟨k0, k1, k2, k3, k4, k5, k6, k7, k8, k9, k10, k11, k12, k13, k14, k15, k16, k17, k18, k19, k20, k21, k22, k23, k24, k25⟩ := hS v2 Q2
                      go_wp2_with fail
                      go_ret
                      exact ⟨by simp, q01.tr Q2⟩
                    | true =>
                      cases d11 with
                      | false =>
                        go_enter Tryz.func18, Tryz.ntmps18
                        go_wp2_with fail
                        rw [← HW0.out, ← HW1.out]
                        refine (z4 _ (Fr.refl _ W1)).mono ?_
                        rintro e v1 ⟨rfl, r1⟩
                        have Q1 := (Fr.refl (fun _ => False) W1).tr r1
                        obtain ⟨k0, k1, k2, k3, k4, k5, k6, k7, k8, k9, k10, k11, k12, k13, k14, k15, k16, k17, k18, k19, k20, k21, k22, k23, k24, k25⟩ := hS v1 Q1
                        go_wp2_with fail
                        refine (z6 _ Q1).mono ?_
                        rintro e v2 ⟨rfl, r2⟩
                        have Q2 := Q1.tr r2
                        obtain ⟨k0, k1, k2, k3, k4, k5, k6, k7, k8, k9, k10, k11, k12, k13, k14, k15, k16, k17, k18, k19, k20, k21, k22, k23, k24, k25⟩ := hS v2 Q2
                        go_wp2_with fail
                        refine (z11 _ Q2).mono ?_
                        rintro e v3 ⟨rfl, r3⟩
                        have Q3 := Q2.tr r3
                        go_wp2_with fail
                        go_ret
                        exact ⟨by simp, q01.tr Q3⟩
                      | true =>
                        go_enter Tryz.func18, Tryz.ntmps18
                        go_wp2_with fail
                        rw [← HW0.out, ← HW1.out]
                        refine (z4 _ (Fr.refl _ W1)).mono ?_
                        rintro e v1 ⟨rfl, r1⟩
                        have Q1 := (Fr.refl (fun _ => False) W1).tr r1
                        obtain ⟨k0, k1, k2, k3, k4, k5, k6, k7, k8, k9, k10, k11, k12, k13, k14, k15, k16, k17, k18, k19, k20, k21, k22, k23, k24, k25⟩ := hS v1 Q1
                        go_wp2_with fail
                        refine (z6 _ Q1).mono ?_
                        rintro e v2 ⟨rfl, r2⟩
                        have Q2 := Q1.tr r2
                        obtain ⟨k0, k1, k2, k3, k4, k5, k6, k7, k8, k9, k10, k11, k12, k13, k14, k15, k16, k17, k18, k19, k20, k21, k22, k23, k24, k25⟩ := hS v2 Q2
                        go_wp2_with fail
                        refine (z11 _ Q2).mono ?_
                        rintro e v3 ⟨rfl, r3⟩
                        have Q3 := Q2.tr r3
                        go_wp2_with fail
                        go_ret
                        exact ⟨by simp, q01.tr Q3⟩
end Go.Proofs.YtkjnlhidnkbelaaGreatDoor
