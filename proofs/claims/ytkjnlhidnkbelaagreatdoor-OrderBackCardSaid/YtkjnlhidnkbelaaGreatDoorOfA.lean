/- Orders, by the document: acts and reads told right. (Printed by genof.py.) -/
import Derived.Test.YtkjnlhidnkbelaaGreatDoorOdW
namespace Go.Proofs.YtkjnlhidnkbelaaGreatDoor
open Go Go.RowKit
set_option maxRecDepth 100000 in
theorem rfwithin_any (w : World) (a b c : Int) : Calls Tryz.prog 81 #[I64 a, I64 b, I64 c] w fun e w' => e = .returned (.bool (decide (a ≤ b ∧ b ≤ c))) ∧ Nw w w' := by
  by_cases h1 : a ≤ b
  · by_cases h2 : b ≤ c
    · have e : decide (a ≤ b ∧ b ≤ c) = true := decide_eq_true ⟨h1, h2⟩
      rw [e]
      go_enter Tryz.func81, Tryz.ntmps81
      go_wp2_with fail
      go_ret
      exact ⟨rfl, Fr.refl _ w⟩
    · have e : decide (a ≤ b ∧ b ≤ c) = false := decide_eq_false fun h => h2 h.2
      rw [e]
      go_enter Tryz.func81, Tryz.ntmps81
      go_wp2_with fail
      go_ret
      exact ⟨by simp, Fr.refl _ w⟩
  · have e : decide (a ≤ b ∧ b ≤ c) = false := decide_eq_false fun h => h1 h.1
    rw [e]
    go_enter Tryz.func81, Tryz.ntmps81
    go_wp2_with fail
    go_ret
    exact ⟨by simp, Fr.refl _ w⟩
def valB (l : List UInt8) : Bool := decide (l.length ≤ 20) && l.all valCh
theorem valCh_yes {b : UInt8} (h : (97 ≤ b.toNat ∧ b.toNat ≤ 122) ∨ (48 ≤ b.toNat ∧ b.toNat ≤ 57) ∨ b.toNat = 45) : valCh b = true := by
  unfold valCh
  rcases h with h | h | h
  · rw [keyCh_yes (.inl h)]; rfl
  · rw [keyCh_yes (.inr h)]; rfl
  · rw [decide_eq_true h]; simp
theorem valCh_no {b : UInt8} (h : ¬ ((97 ≤ b.toNat ∧ b.toNat ≤ 122) ∨ (48 ≤ b.toNat ∧ b.toNat ≤ 57))) (h2 : ¬ b.toNat = 45) : valCh b = false := by
  unfold valCh
  rw [keyCh_no h, decide_eq_false h2]; rfl
theorem valB_no {l : List UInt8} (k : Nat) (h : k < l.length) (hk : valCh l[k] = false) : valB l = false := by
  unfold valB
  rw [Bool.eq_false_iff]
  intro ho
  simp only [Bool.and_eq_true, List.all_eq_true] at ho
  rw [ho.2 _ (List.getElem_mem h)] at hk
  cases hk
def ValTo (l : List UInt8) (w : World) (i : Value) (wx : World) : Prop := ∃ k : Nat, k ≤ l.length ∧ i = .int .i64 k ∧ (∀ j (h : j < l.length), j < k → valCh l[j] = true) ∧ wx = w
set_option maxRecDepth 100000 in
theorem refValue_any (w : World) (l : List UInt8) (hl : l.length ≤ 140737488355328) : Calls Tryz.prog 183 #[StrV l] w fun e w' => e = .returned (.bool (valB l)) ∧ w = w' := by
  have hsz := str_size l
  have hix : ∀ (w : World) (k : Nat) (h : k < l.length), (Instr.index 9 (.string ⟨l.toArray⟩) (.int .i64 (k : Int))).run Tryz.prog w = .ok (.int .u8 (l[k].toNat : Int)) w := fun w => str_index w l
  show Calls Tryz.prog 183 #[.string ⟨l.toArray⟩] w fun e w' => e = .returned (.bool (valB l)) ∧ w = w'
  generalize (⟨l.toArray⟩ : ByteArray) = s at hsz hix ⊢
  go_enter Tryz.func183, Tryz.ntmps183
  go_wp2_with fail
  go_loopw [3] (fun i wx => ValTo l w i wx) (fun i _ => l.length - (intOf i).toNat)
  case atStart => exact ⟨0, Nat.zero_le _, rfl, fun _ _ h => by omega, rfl⟩
  case round =>
    obtain ⟨k, hk, rfl, hok, rfl⟩ := hrel
    have HK := Lib.hid hok
    clear hok
    by_cases hlt : k < l.length
    · have hx := fun w => hix w k hlt
      obtain ⟨c, hc⟩ : ∃ c : Int, (l[k].toNat : Int) = c := ⟨_, rfl⟩
      rw [hc] at hx
      have HC := Lib.hid hc
      clear hc hix
      by_cases h3 : 97 ≤ c
      · by_cases h4 : c ≤ 122
        · go_wp2_with fail
          go_roundw
          case rel =>
            refine ⟨k + 1, by omega, rfl, fun j hj hjk => ?_, rfl⟩
            by_cases hjk2 : j < k
            · exact HK.out j hj hjk2
            · obtain rfl : j = k := by omega
              have := HC.out
              exact valCh_yes (by omega)
          case measure => simp [intOf]; omega
        · have h5 : 48 ≤ c := by omega
          have h6 : ¬ c ≤ 57 := by omega
          have h7 : ¬ c = 45 := by omega
          have h8 : (c == 45) = false := beq_false_of_ne h7
          go_wp2_with fail
          go_ret
          have := HC.out
          exact ⟨retB (valB_no k hlt (valCh_no (by omega) (by omega))).symm, rfl⟩
      · by_cases h5 : 48 ≤ c
        · by_cases h6 : c ≤ 57
          · go_wp2_with fail
            go_roundw
            case rel =>
              refine ⟨k + 1, by omega, rfl, fun j hj hjk => ?_, rfl⟩
              by_cases hjk2 : j < k
              · exact HK.out j hj hjk2
              · obtain rfl : j = k := by omega
                have := HC.out
                exact valCh_yes (by omega)
            case measure => simp [intOf]; omega
          · have h7 : ¬ c = 45 := by omega
            have h8 : (c == 45) = false := beq_false_of_ne h7
            go_wp2_with fail
            go_ret
            have := HC.out
            exact ⟨retB (valB_no k hlt (valCh_no (by omega) (by omega))).symm, rfl⟩
        · by_cases h7 : c = 45
          · have h8 : (c == 45) = true := by rw [h7]; rfl
            go_wp2_with fail
            go_roundw
            case rel =>
              refine ⟨k + 1, by omega, rfl, fun j hj hjk => ?_, rfl⟩
              by_cases hjk2 : j < k
              · exact HK.out j hj hjk2
              · obtain rfl : j = k := by omega
                have := HC.out
                exact valCh_yes (by omega)
            case measure => simp [intOf]; omega
          · have h8 : (c == 45) = false := beq_false_of_ne h7
            go_wp2_with fail
            go_ret
            have := HC.out
            exact ⟨retB (valB_no k hlt (valCh_no (by omega) (by omega))).symm, rfl⟩
    · go_wp2_with fail
      go_ret
      refine ⟨retB ?_, rfl⟩
      have e : l.all valCh = true := List.all_eq_true.2 fun x hx => by
        obtain ⟨j, hj, rfl⟩ := List.mem_iff_getElem.1 hx
        exact HK.out j hj (by omega)
      unfold valB
      rw [e, Bool.and_true]
      congr 1
      apply propext
      omega
theorem actOk1 (a : ActT) (h : a.kind = 1) : actOk a = (keyOk a.key && (decide (a.val = []) && decide (a.num = 0))) := by
  unfold actOk; rw [if_pos h]
theorem actOk2 (a : ActT) (h : a.kind = 2) : actOk a = (keyOk a.key && (valB a.val && decide (a.num = 0))) := by
  unfold actOk valB; rw [if_neg (by omega), if_pos h]
theorem actOk3 (a : ActT) (h : a.kind = 3) : actOk a = (keyOk a.key && (decide (a.val = []) && decide (-1073741824 ≤ a.num ∧ a.num ≤ 1073741824))) := by
  unfold actOk; rw [if_neg (by omega), if_neg (by omega), if_pos h]
theorem actOk0 (a : ActT) (h : ¬ a.kind = 1 ∧ ¬ a.kind = 2 ∧ ¬ a.kind = 3) : actOk a = false := by
  unfold actOk; rw [if_neg h.1, if_neg h.2.1, if_neg h.2.2]; simp
set_option maxRecDepth 100000 in
set_option maxHeartbeats 2000000 in
theorem refOne_any (w : World) (a : ActT) (hk : 0 ≤ a.kind ∧ a.kind ≤ 255) (h1 : a.key.length ≤ 140737488355328) (h2 : a.val.length ≤ 140737488355328) :
    Calls Tryz.prog 156 #[ActV a] w fun e w' => e = .returned (.bool (actOk a)) ∧ Nw w w' := by
  have hcon := fun w => refKey_any w a.key h1
  have hval := fun w => refValue_any w a.val h2
  have hnil := str_nil a.val
  have a1 := actOk1 a
  have a2 := actOk2 a
  have a3 := actOk3 a
  have a0 := actOk0 a
  generalize actOk a = res at a0 a1 a2 a3 ⊢
  obtain ⟨k, key, val, num⟩ := a
  show Calls Tryz.prog 156 #[.agg #[.int .u8 k, StrV key, .string ⟨val.toArray⟩, I64 num]] w fun e w' => e = .returned (.bool res) ∧ Nw w w'
  simp only at a0 a1 a2 a3 hcon hval hnil hk
  have hval : ∀ w, Calls Tryz.prog 183 #[.string ⟨val.toArray⟩] w fun e w' => e = .returned (.bool (valB val)) ∧ w = w' := hval
  generalize decide (val = []) = n at hnil a1 a3
  generalize valB val = v at hval a2
  generalize keyOk key = q at hcon a1 a2 a3
  generalize (⟨val.toArray⟩ : ByteArray) = s at hnil hval ⊢
  have HH := Lib.hid (And.intro a0 (And.intro a1 (And.intro a2 a3)))
  clear a0 a1 a2 a3
  by_cases k1 : k = 1
  · subst k1
    have E := Lib.hid (HH.out.2.1 rfl)
    clear HH
    by_cases z : num = 0
    · have Z := Lib.hid (decide_eq_true z)
      cases q <;> cases n <;>
      · go_enter Tryz.func156, Tryz.ntmps156
        go_wp2_with (go_at_call 157; refine (hcon _).mono ?_; rintro e w1 ⟨rfl, rfl⟩)
        go_ret
        exact ⟨retB (by rw [E.out, Z.out]; first | rfl | simp [z]), (Fr.refl _ w).alloc _⟩
    · have Z := Lib.hid (decide_eq_false z)
      cases q <;> cases n <;>
      · go_enter Tryz.func156, Tryz.ntmps156
        go_wp2_with (go_at_call 157; refine (hcon _).mono ?_; rintro e w1 ⟨rfl, rfl⟩)
        go_ret
        exact ⟨retB (by rw [E.out, Z.out]; first | rfl | simp [z]), (Fr.refl _ w).alloc _⟩
  · by_cases k2 : k = 2
    · subst k2
      have E := Lib.hid (HH.out.2.2.1 rfl)
      clear HH k1
      by_cases z : num = 0
      · have Z := Lib.hid (decide_eq_true z)
        cases q <;> cases v <;>
        · go_enter Tryz.func156, Tryz.ntmps156
          go_wp2_with (first | (go_at_call 157; refine (hcon _).mono ?_; rintro e w1 ⟨rfl, rfl⟩) | (go_at_call 183; refine (hval _).mono ?_; rintro e w1 ⟨rfl, rfl⟩))
          go_ret
          exact ⟨retB (by rw [E.out, Z.out]; first | rfl | simp [z]), (Fr.refl _ w).alloc _⟩
      · have Z := Lib.hid (decide_eq_false z)
        cases q <;> cases v <;>
        · go_enter Tryz.func156, Tryz.ntmps156
          go_wp2_with (first | (go_at_call 157; refine (hcon _).mono ?_; rintro e w1 ⟨rfl, rfl⟩) | (go_at_call 183; refine (hval _).mono ?_; rintro e w1 ⟨rfl, rfl⟩))
          go_ret
          exact ⟨retB (by rw [E.out, Z.out]; first | rfl | simp [z]), (Fr.refl _ w).alloc _⟩
    · by_cases k3 : k = 3
      · subst k3
        have E := Lib.hid (HH.out.2.2.2 rfl)
        clear HH k1 k2
        by_cases z : -1073741824 ≤ num
        · by_cases y : num ≤ 1073741824
          · have Z := Lib.hid (decide_eq_true (And.intro z y))
            cases q <;> cases n <;>
            · go_enter Tryz.func156, Tryz.ntmps156
              go_wp2_with (go_at_call 157; refine (hcon _).mono ?_; rintro e w1 ⟨rfl, rfl⟩)
              go_ret
              exact ⟨retB (by rw [E.out, Z.out]; first | rfl | simp [z]), (Fr.refl _ w).alloc _⟩
          · have Z := Lib.hid (decide_eq_false (fun h => y h.2 : ¬ (-1073741824 ≤ num ∧ num ≤ 1073741824)))
            cases q <;> cases n <;>
            · go_enter Tryz.func156, Tryz.ntmps156
              go_wp2_with (go_at_call 157; refine (hcon _).mono ?_; rintro e w1 ⟨rfl, rfl⟩)
              go_ret
              exact ⟨retB (by rw [E.out, Z.out]; first | (simp; done) | (simp; omega)), (Fr.refl _ w).alloc _⟩
        · have Z := Lib.hid (decide_eq_false (fun h => z h.1 : ¬ (-1073741824 ≤ num ∧ num ≤ 1073741824)))
          cases q <;> cases n <;>
          · go_enter Tryz.func156, Tryz.ntmps156
            go_wp2_with (go_at_call 157; refine (hcon _).mono ?_; rintro e w1 ⟨rfl, rfl⟩)
            go_ret
            exact ⟨retB (by rw [E.out, Z.out]; first | (simp; done) | (simp; omega)), (Fr.refl _ w).alloc _⟩
      · have E := Lib.hid (HH.out.1 ⟨k1, k2, k3⟩)
        clear HH
        go_enter Tryz.func156, Tryz.ntmps156
        go_wp2_with fail
        go_ret
        exact ⟨retB (by rw [E.out]), (Fr.refl _ w).alloc _⟩
set_option maxRecDepth 100000 in
theorem refActs_any (w : World) (F : Nat → Prop) (A : Option Addr) (c : Nat) (l : List ActT) (hs : Sl w F A (actsCells l)) (hl : l.length ≤ 1000000000) (hz : ActSz l) :
    Calls Tryz.prog 112 #[.slice A l.length c] w fun e w' => e = .returned (.bool (actsOk l)) ∧ Nw w w' := by
  obtain ⟨res, hres⟩ : ∃ res, (actsOk l) = res := ⟨_, rfl⟩
  rw [hres]
  have HR := Lib.hid hres
  clear hres
  go_enter Tryz.func112, Tryz.ntmps112
  go_wp2_with fail
  go_loopw [3] (fun i wx => ActTo w l i wx) (fun i _ => l.length - (intOf i).toNat)
  case atStart => exact ⟨0, Nat.zero_le _, rfl, fun _ _ h => by omega, Fr.refl _ _⟩
  case round =>
    obtain ⟨k, hk, rfl, hok, hq⟩ := hrel
    have HK := Lib.hid hok
    clear hok
    by_cases hlt : k < l.length
    · obtain ⟨b, o, rfl, hF, hc1, hc2, hc3, hc4⟩ := (hs.fr hq (fun _ _ h => h)).act hlt
      have hzk := hz _ (List.getElem_mem hlt)
      have hcon := fun w => refOne_any w l[k] hzk.1 hzk.2.1 hzk.2.2
      clear hzk
      obtain ⟨p, hp⟩ : ∃ p, actOk l[k] = p := ⟨_, rfl⟩
      rw [hp] at hcon
      have HP := Lib.hid hp
      clear hp
      cases p
      · go_wp2_with (go_at_call 156; refine (hcon _).mono ?_; rintro e w1 ⟨rfl, q1⟩)
        go_ret
        refine ⟨retB ?_, hq.tr q1⟩
        have hn : l.all actOk = false := Bool.eq_false_iff.2 fun h => by
          have := List.all_eq_true.1 h _ (List.getElem_mem hlt)
          rw [HP.out] at this
          cases this
        rw [← HR.out]
        try unfold actsOk
        rw [hn, Bool.and_false]
      · go_wp2_with (go_at_call 156; refine (hcon _).mono ?_; rintro e w1 ⟨rfl, q1⟩)
        go_roundw
        case rel =>
          refine ⟨k + 1, by omega, rfl, fun j hj hjk => ?_, hq.tr q1⟩
          by_cases hjk2 : j < k
          · exact HK.out j hj hjk2
          · obtain rfl : j = k := by omega
            exact HP.out
        case measure => simp [intOf]; omega
    · have e : l.all actOk = true := List.all_eq_true.2 fun x hx => by
        obtain ⟨j, hj, rfl⟩ := List.mem_iff_getElem.1 hx
        exact HK.out j hj (by omega)
      have E := Lib.hid e
      clear e
      have e0 : actsOk l = (decide (1 ≤ l.length ∧ l.length ≤ 6) && l.all actOk) := rfl
      rw [HR.out, E.out, Bool.and_true] at e0
      have E0 := Lib.hid e0
      clear e0
      by_cases h1 : 1 ≤ l.length
      · have d1 : decide ((1 : Int) ≤ (l.length : Int)) = true := decide_eq_true (by omega)
        go_wp2_with fail
        go_ret
        refine ⟨retB ?_, hq⟩
        rw [E0.out]
        by_cases h6 : l.length ≤ 6
        · rw [decide_eq_true (⟨h1, h6⟩ : 1 ≤ l.length ∧ l.length ≤ 6)]
          exact decide_eq_true (by omega)
        · rw [decide_eq_false (fun h => h6 h.2 : ¬ (1 ≤ l.length ∧ l.length ≤ 6))]
          exact decide_eq_false (by omega)
      · have d1 : decide ((1 : Int) ≤ (l.length : Int)) = false := decide_eq_false (by omega)
        go_wp2_with fail
        go_ret
        refine ⟨retB ?_, hq⟩
        rw [E0.out]
        exact (decide_eq_false (fun h => h1 h.1)).symm
set_option maxRecDepth 100000 in
theorem refReads_any (w : World) (F : Nat → Prop) (A : Option Addr) (c : Nat) (l : List Rdg) (hs : Sl w F A (rdgsCells l)) (hl : l.length ≤ 1000000000) (hz : RdgSz l) :
    Calls Tryz.prog 87 #[.slice A l.length c] w fun e w' => e = .returned (.bool (decide (l.length ≤ 6) && l.all rdgOk)) ∧ Nw w w' := by
  obtain ⟨res, hres⟩ : ∃ res, (decide (l.length ≤ 6) && l.all rdgOk) = res := ⟨_, rfl⟩
  rw [hres]
  have HR := Lib.hid hres
  clear hres
  go_enter Tryz.func87, Tryz.ntmps87
  go_wp2_with fail
  go_loopw [3] (fun i wx => RdgTo w l i wx) (fun i _ => l.length - (intOf i).toNat)
  case atStart => exact ⟨0, Nat.zero_le _, rfl, fun _ _ h => by omega, Fr.refl _ _⟩
  case round =>
    obtain ⟨k, hk, rfl, hok, hq⟩ := hrel
    have HK := Lib.hid hok
    clear hok
    by_cases hlt : k < l.length
    · obtain ⟨b, o, rfl, hF, hc1, hc2, hc3⟩ := (hs.fr hq (fun _ _ h => h)).rdg hlt
      have hzk := hz _ (List.getElem_mem hlt)
      have hcon := fun w => readRight_any w l[k] hzk.1 hzk.2
      clear hzk
      obtain ⟨p, hp⟩ : ∃ p, rdgOk l[k] = p := ⟨_, rfl⟩
      rw [hp] at hcon
      have HP := Lib.hid hp
      clear hp
      cases p
      · go_wp2_with (go_at_call 136; refine (hcon _).mono ?_; rintro e w1 ⟨rfl, q1⟩)
        go_ret
        refine ⟨retB ?_, hq.tr q1⟩
        have hn : l.all rdgOk = false := Bool.eq_false_iff.2 fun h => by
          have := List.all_eq_true.1 h _ (List.getElem_mem hlt)
          rw [HP.out] at this
          cases this
        rw [← HR.out]
        try unfold actsOk
        rw [hn, Bool.and_false]
      · go_wp2_with (go_at_call 136; refine (hcon _).mono ?_; rintro e w1 ⟨rfl, q1⟩)
        go_roundw
        case rel =>
          refine ⟨k + 1, by omega, rfl, fun j hj hjk => ?_, hq.tr q1⟩
          by_cases hjk2 : j < k
          · exact HK.out j hj hjk2
          · obtain rfl : j = k := by omega
            exact HP.out
        case measure => simp [intOf]; omega
    · have e : l.all rdgOk = true := List.all_eq_true.2 fun x hx => by
        obtain ⟨j, hj, rfl⟩ := List.mem_iff_getElem.1 hx
        exact HK.out j hj (by omega)
      have E := Lib.hid e
      clear e
      go_wp2_with fail
      go_ret
      refine ⟨retB ?_, hq⟩
      rw [← HR.out, E.out, Bool.and_true]
      congr 1
      apply propext
      omega
end Go.Proofs.YtkjnlhidnkbelaaGreatDoor
