/- Orders: lists of acts told right; reads told right. -/
import Derived.Test.YtkjnlhidnkbelaaGreatDoorOdB
import Derived.Test.YtkjnlhidnkbelaaGreatDoorGr2
namespace Go.Proofs.YtkjnlhidnkbelaaGreatDoor
open Go Go.RowKit

set_option maxRecDepth 100000 in
theorem actRightc_any (w : World) (a : ActT) (hk : 0 ≤ a.kind ∧ a.kind ≤ 255) (h1 : a.key.length ≤ 140737488355328) (h2 : a.val.length ≤ 140737488355328) :
    Calls Tryz.prog 188 #[ActV a] w fun e w' => e = .returned (.bool (!actOk a)) ∧ Nw w w' := by
  obtain ⟨W0, hW0⟩ : ∃ W0, W0 = w.alloc (.cells #[.int .u8 a.kind, StrV a.key, StrV a.val, I64 a.num] 91) := ⟨_, rfl⟩
  have q0 : Nw w W0 := by rw [hW0]; exact (Fr.refl (fun _ => False) w).alloc _
  have b0 : Blk W0 w.heap.size 91 #[.int .u8 a.kind, StrV a.key, StrV a.val, I64 a.num] := by rw [hW0]; exact Blk.new w _ _
  have hcon := actRight1_any W0 a hk h1 h2
  generalize actOk a = b at hcon ⊢
  have HW0 := Lib.hid hW0
  clear hW0
  go_enter Tryz.func188, Tryz.ntmps188
  go_upto_region 1 with (fail)
  rw [← HW0.out]
  go_wp2_with (first | (refine wpList_load_row rfl 91 _ rfl w.heap.size rfl 91 _ (0, 0) _ b0 Tryz.underlying91 rfl act_size ?_) | (go_at_call 189; refine hcon.mono ?_; rintro e w1 ⟨rfl, q1⟩))
  go_ret
  exact ⟨by simp, q0.tr q1⟩
/-- All acts before the k-th are right. -/
def ActTo (w : World) (l : List ActT) (i : Value) (wx : World) : Prop := ∃ k : Nat, k ≤ l.length ∧ i = .int .i64 k ∧ (∀ j (h : j < l.length), j < k → actOk l[j] = true) ∧ Nw w wx
set_option maxRecDepth 100000 in
theorem indexAct_any (w : World) (F : Nat → Prop) (A : Option Addr) (c : Nat) (l : List ActT) (hs : Sl w F A (actsCells l)) (hz : ActSz l) (hl : l.length ≤ 1000000000) :
    Calls Tryz.prog 193 #[.slice A l.length c, .func (.func 188) #[] #[]] w
      fun e w' => ∃ i : Int, e = .returned (.int .i64 i) ∧ (0 ≤ i ↔ l.all actOk = false) ∧ Nw w w' := by
  go_enter Tryz.func193, Tryz.ntmps193
  go_wp2_with fail
  go_loopw [8] (fun i wx => ActTo w l i wx) (fun i _ => l.length - (intOf i).toNat)
  case atStart => exact ⟨0, Nat.zero_le _, rfl, fun _ _ h => by omega, Fr.refl _ _⟩
  case round =>
    obtain ⟨k, hk, rfl, hok, hq⟩ := hrel
    have HK := Lib.hid hok
    clear hok
    by_cases hlt : k < l.length
    · obtain ⟨b, o, rfl, hF, hc1, hc2, hc3, hc4⟩ := (hs.fr hq (fun _ _ h => h)).act hlt
      have hzk := hz _ (List.getElem_mem hlt)
      have hcon := fun w => actRightc_any w l[k] hzk.1 hzk.2.1 hzk.2.2
      have HX := Lib.hid (rfl : actOk l[k] = actOk l[k])
      clear hzk
      obtain ⟨p, hp⟩ : ∃ p, actOk l[k] = p := ⟨_, rfl⟩
      rw [hp] at hcon HX
      have HP := Lib.hid hp
      clear hp
      cases p
      · go_wp2_with (go_at_call 188; refine (hcon _).mono ?_; rintro e w1 ⟨rfl, q1⟩)
        go_ret
        refine ⟨k, rfl, ⟨fun _ => ?_, fun _ => by omega⟩, hq.tr q1⟩
        refine Bool.eq_false_iff.2 fun h => ?_
        have := List.all_eq_true.1 h _ (List.getElem_mem hlt)
        rw [HP.out] at this
        cases this
      · go_wp2_with (go_at_call 188; refine (hcon _).mono ?_; rintro e w1 ⟨rfl, q1⟩)
        go_roundw
        case rel =>
          refine ⟨k + 1, by omega, rfl, fun j hj hjk => ?_, hq.tr q1⟩
          by_cases hjk2 : j < k
          · exact HK.out j hj hjk2
          · obtain rfl : j = k := by omega
            exact HP.out
        case measure => simp [intOf]; omega
    · go_wp2_with fail
      go_ret
      have e : l.all actOk = true := List.all_eq_true.2 fun x hx => by
        obtain ⟨j, hj, rfl⟩ := List.mem_iff_getElem.1 hx
        exact HK.out j hj (by omega)
      exact ⟨-1, rfl, ⟨fun h => by omega, fun h => by rw [e] at h; cases h⟩, hq⟩
theorem containsAct_any (w : World) (F : Nat → Prop) (A : Option Addr) (c : Nat) (l : List ActT) (hs : Sl w F A (actsCells l)) (hz : ActSz l) (hl : l.length ≤ 1000000000) :
    Calls Tryz.prog 187 #[.slice A l.length c, .func (.func 188) #[] #[]] w
      fun e w' => e = .returned (.bool (!l.all actOk)) ∧ Nw w w' := by
  go_enter Tryz.func187, Tryz.ntmps187
  go_wp2_with fail
  refine (indexAct_any w F A c l hs hz hl).mono ?_
  rintro e w1 ⟨i, rfl, hi, q1⟩
  have hd : decide (0 ≤ i) = !l.all actOk := by
    by_cases h0 : 0 ≤ i
    · rw [decide_eq_true h0, hi.1 h0]; rfl
    · have hn : l.all actOk = true := by
        cases h : l.all actOk with
        | true => rfl
        | false => exact (h0 (hi.2 h)).elim
      rw [decide_eq_false h0, hn]; rfl
  have HD := Lib.hid hd
  clear hd hi
  go_wp2_with fail
  go_ret
  exact ⟨congrArg (fun b => Ending.returned (.bool b)) HD.out, q1⟩
set_option maxRecDepth 100000 in
theorem actRight_any (w : World) (F : Nat → Prop) (A : Option Addr) (c : Nat) (l : List ActT) (hs : Sl w F A (actsCells l)) (hl : l.length ≤ 1000000000) (hz : ActSz l) :
    Calls Tryz.prog 178 #[.slice A l.length c] w fun e w' => e = .returned (.bool (actsOk l)) ∧ Nw w w' := by
  have hcon := containsAct_any w F A c l hs hz hl
  have hal : actsOk l = (decide (1 ≤ l.length ∧ l.length ≤ 6) && l.all actOk) := rfl
  generalize actsOk l = res at hal ⊢
  generalize l.all actOk = b at hal hcon
  generalize l.length = n at hal hcon hl ⊢
  have HA := Lib.hid hal
  clear hal
  by_cases h1 : 1 ≤ n
  · by_cases h2 : n ≤ 6
    · have d1 : decide ((1 : Int) ≤ (n : Int)) = true := by simp; omega
      have d2 : decide ((n : Int) ≤ 6) = true := by simp; omega
      have d3 : decide (1 ≤ n) = true := by simp; omega
      have d4 : decide (n ≤ 6) = true := by simp; omega
      have D := Lib.hid (decide_eq_true (⟨h1, h2⟩ : 1 ≤ n ∧ n ≤ 6))
      go_enter Tryz.func178, Tryz.ntmps178
      go_wp2_with (go_at_call 187; refine hcon.mono ?_; rintro e w1 ⟨rfl, q1⟩)
      go_ret
      exact ⟨retB (by rw [HA.out, D.out]; simp), q1⟩
    · have d1 : decide ((1 : Int) ≤ (n : Int)) = true := by simp; omega
      have d2 : decide ((n : Int) ≤ 6) = false := by simp; omega
      have D := Lib.hid (decide_eq_false (fun h => h2 h.2 : ¬ (1 ≤ n ∧ n ≤ 6)))
      go_enter Tryz.func178, Tryz.ntmps178
      go_wp2_with fail
      go_ret
      exact ⟨retB (by rw [HA.out, D.out]; simp), Fr.refl _ w⟩
  · have d1 : decide ((1 : Int) ≤ (n : Int)) = false := by simp; omega
    have D := Lib.hid (decide_eq_false (fun h => h1 h.1 : ¬ (1 ≤ n ∧ n ≤ 6)))
    go_enter Tryz.func178, Tryz.ntmps178
    go_wp2_with fail
    go_ret
    exact ⟨retB (by rw [HA.out, D.out]; simp), Fr.refl _ w⟩
theorem verOk_told (cm : Bool) (l : List Rdg) : verOk ((1, 1), cm, 1, l) = rdgsOk cm l := by
  unfold verOk rdgsOk
  have h : nmOk (1, 1) := by unfold nmOk; decide
  have h2 : (1 : Int) ≤ 1 ∧ (1 : Int) ≤ 1073741824 := by decide
  have h3 : decide (l.length = 0) = decide (l = []) := by cases l <;> simp
  simp only [decide_eq_true h, decide_eq_true h2, Bool.true_and, h3]
set_option maxRecDepth 100000 in
theorem told_any (w : World) (F : Nat → Prop) (cm : Bool) (A : Option Addr) (c : Nat) (l : List Rdg) (hs : Sl w F A (rdgsCells l)) (hc : l.length ≤ c ∧ c ≤ maxLen) (hz : l.length ≤ 1000000000 ∧ RdgSz l) :
    Calls Tryz.prog 52 #[.bool cm, .slice A l.length c] w fun e w' => e = .returned (.bool (rdgsOk cm l)) ∧ Nw w w' := by
  have hcon := right_one w F ((1, 1), cm, 1, l) A c hs hc.1 hc.2 hz w.heap.size rfl
  rw [verOk_told] at hcon
  generalize rdgsOk cm l = b at hcon ⊢
  go_enter Tryz.func52, Tryz.ntmps52
  go_wp2_with (go_at_call 102; refine hcon.mono ?_; rintro e w1 ⟨rfl, q1⟩)
  go_ret
  exact ⟨rfl, q1⟩
end Go.Proofs.YtkjnlhidnkbelaaGreatDoor
