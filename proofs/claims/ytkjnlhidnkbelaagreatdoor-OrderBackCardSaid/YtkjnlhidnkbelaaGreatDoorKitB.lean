/- The statements' kit: bytes that are lent. -/
import Derived.Test.YtkjnlhidnkbelaaGreatDoorKitA
namespace Go.Proofs.YtkjnlhidnkbelaaGreatDoor
open Go Go.RowKit

/-- The mark of a place in a list of bytes. -/
def mkB (k i : Nat) : UInt8 := UInt8.ofNat ((1000003 * (k + 7) + i) * 11400714819323198485 % 18446744073709551616 / 72057594037927936)
theorem mkB_int (k i : Nat) :
    IntKind.u64.wrap ((1000003 * ((k : Int) + 7) + (i : Int)) * 11400714819323198485) / 72057594037927936 % 256 = ((mkB k i).toNat : Int) := by
  unfold mkB
  rw [UInt8.toNat_ofNat']
  have e : (1000003 * ((k : Int) + 7) + (i : Int)) * 11400714819323198485 = (((1000003 * (k + 7) + i) * 11400714819323198485 : Nat) : Int) := by omega
  rw [e]
  generalize (1000003 * (k + 7) + i) * 11400714819323198485 = Y
  simp only [IntKind.wrap_u64]
  omega

theorem mark_any (w : World) (k i : Int) (hk : 0 ≤ k) (hk2 : k ≤ 1000000000000) (hi : 0 ≤ i) (hi2 : i ≤ 100000000000000) :
    Calls Tryz.prog 109 #[.int .i64 k, .int .i64 i] w fun e w' => e = .returned (.int .i64 (1000003 * (k + 7) + i)) ∧ w = w' := by
  go_enter Tryz.func109, Tryz.ntmps109
  go_wp2
  go_ret
  exact ⟨rfl, rfl⟩

theorem markByte_any (w : World) (k i : Int) (hk : 0 ≤ k) (hk2 : k ≤ 1000000000000) (hi : 0 ≤ i) (hi2 : i ≤ 100000000000000) :
    Calls Tryz.prog 73 #[.int .i64 k, .int .i64 i] w fun e w' => e = .returned (B8 (mkB k.toNat i.toNat)) ∧ w = w' := by
  obtain ⟨k', rfl⟩ := Int.eq_ofNat_of_zero_le hk
  obtain ⟨i', rfl⟩ := Int.eq_ofNat_of_zero_le hi
  go_enter Tryz.func73, Tryz.ntmps73
  go_wp2_with (go_at_call 109; refine (mark_any _ _ _ hk hk2 hi hi2).mono ?_; rintro e w1 ⟨rfl, rfl⟩)
  go_ret
  refine ⟨ret_eq ?_, rfl⟩
  show Value.int IntKind.u8 _ = Value.int IntKind.u8 _
  rw [Int.toNat_natCast, Int.toNat_natCast, ← mkB_int k' i']

/-- The marks behind what is lent. -/
def behind : List UInt8 := (List.range 12).map (mkB 1)
/-- What 'LentBytes' hands out: a slice with marks in its spare room. -/
def Lent (w : World) (A : Option Addr) (ys : List UInt8) : Prop := Own w 5 1 A (ys.length + 12) (ys.length + 12) ((ys ++ behind).map B8)

def LentRel (w : World) (g : Nat) (ys : List UInt8) (v i : Value) (wr : World) : Prop :=
  ∃ k : Nat, k ≤ 12 ∧ i = .int .i64 k ∧ v = .slice (some ⟨g, 0, none⟩) (ys.length + k) (ys.length + 12) ∧ Own wr 5 1 (some ⟨g, 0, none⟩) (ys.length + k) (ys.length + 12) ((ys ++ (List.range k).map (mkB 1)).map B8) ∧ Nw w wr

set_option maxRecDepth 100000 in
theorem lent_u8 (w : World) (F : Nat → Prop) (A : Option Addr) (c : Nat) (ys : List UInt8) (h : Sl w F A (ys.map B8)) (hsz : ys.length ≤ 1000000000000) :
    Calls Tryz.prog 26 #[.slice A ys.length c] w fun e w' => ∃ g, e = .returned (.slice (some ⟨g, 0, none⟩) ys.length (ys.length + 12)) ∧ Lent w' (some ⟨g, 0, none⟩) ys ∧ Nw w w' ∧ w.heap.size ≤ g := by
  go_enter Tryz.func26, Tryz.ntmps26
  go_wp2_with (first | (at_make; refine wl_make0 rfl _ _ _ rfl 1 (.int .u8 0) Tryz.underlying22 info_u8 .i64 .i64 ((ys.length : Int) + 12) (ys.length + 12) rfl rfl (by omega) (by omega) (by unfold maxLen; omega) ?_; intro w1 ho1 hq1; have hs1 := h.fr hq1 (fun _ _ h => h)) | (at_builtin; refine wl_append2 rfl _ _ _ rfl 1 (.int .u8 0) Tryz.underlying22 info_u8 rfl (by decide) rfl ho1 rfl hs1 (by simp) (B8_oneCell ys) (by omega) (by unfold maxLen; omega) ?_; intro A' cap' w2 hap))
  rcases hap with ⟨ho2, _, ⟨_, rfl, rfl, hf2⟩ | ⟨hlt, _⟩⟩
  rotate_left
  · omega
  simp only [Nat.zero_add, List.nil_append] at ho2 ⊢
  have hq2 : Nw w w2 := hq1.new hf2 (fun k hk => by rw [(inA_some _ _).1 hk]; exact Nat.le_refl _)
  clear hf2 ho1 hs1 hq1
  go_wp2_with fail
  go_loopw [3, 4] (fun v i wr => LentRel w w.heap.size ys v i wr) (fun _ i _ => 12 - (intOf i).toNat)
  case atStart => exact ⟨0, by omega, rfl, rfl, by simpa using ho2, hq2⟩
  case round =>
    obtain ⟨k, hk, rfl, rfl, ho, hq⟩ := hrel
    by_cases hlt : k < 12
    · go_wp2_with (first | (go_at_call 73; refine (markByte_any _ _ _ (by omega) (by omega) (by omega) (by omega)).mono ?_; rintro e w3 ⟨rfl, rfl⟩) | (at_builtin; refine wl_append2 rfl _ _ _ rfl 1 (.int .u8 0) Tryz.underlying22 info_u8 rfl (by decide) rfl (ho.alloc _) rfl ((Blk.new _ _ _).sl 0 1) rfl (B8_oneCell [mkB 1 k]) (by omega) (by unfold maxLen; omega) ?_; intro A' cap' w2 hap))
      rcases hap with ⟨ho3, _, ⟨_, rfl, rfl, hf3⟩ | ⟨hlt, _⟩⟩
      rotate_left
      · omega
      have hq3 : Nw w w2 := (hq.alloc _).new hf3 (fun k hk => by rw [(inA_some _ _).1 hk]; exact Nat.le_refl _)
      go_wp2_with fail
      go_roundw
      case rel =>
        refine ⟨k + 1, by omega, by go_num, by simp [Nat.add_assoc], ?_, hq3⟩
        rw [List.range_succ]
        have e : ys.length + (k + 1) = ys.length + k + 1 := by omega
        rw [e]
        simpa [Int.toNat_natCast] using ho3
      case measure => simp [intOf]; omega
    · have hk12 : k = 12 := by omega
      subst hk12
      have hs := slice_h (P := Tryz.prog) 22 under_bytes 1 size_bytes (some ⟨w.heap.size, 0, none⟩) (ys.length + 12) (ys.length + 12) ys.length (by omega)
      go_wp2_with fail
      go_ret
      exact ⟨_, rfl, ho, hq, Nat.le_refl _⟩

/-- 'CopyBytes'. -/
theorem copy_u8 (w : World) (F : Nat → Prop) (A : Option Addr) (c : Nat) (ys : List UInt8) (h : Sl w F A (ys.map B8)) (hsz : ys.length ≤ 1000000000000) :
    Calls Tryz.prog 17 #[.slice A ys.length c] w fun e w' => ∃ A' c', e = .returned (.slice A' ys.length c') ∧ Own w' 5 1 A' ys.length c' (ys.map B8) ∧ Nw w w' ∧ ∀ k, inA A' k → w.heap.size ≤ k := by
  go_enter Tryz.func17, Tryz.ntmps17
  go_wp2_with (at_builtin; refine wl_append rfl _ _ _ rfl 1 (.int .u8 0) Tryz.underlying22 info_u8 rfl (by decide) rfl (Own.nil _ _ _) rfl h (by simp) (B8_oneCell ys) (by omega) (by unfold maxLen; omega) ?_; intro A' cap' w1 ho hf hin)
  go_ret
  simp only [Nat.zero_add, List.nil_append] at ho
  exact ⟨A', cap', by simp, ho, hf.mono fun k hk => (inA_none k hk).elim, fun k hk => (hin k hk).elim (fun h => (inA_none k h).elim) (fun h => by omega)⟩

theorem quiet_left {P : Program} {f : FuncId} {args : Array Value} {w : World} {n : Nat} {v : Value}
    (h : Calls P f args (w.drewN n) fun e w' => e = .returned v ∧ w.drewN n = w') : Calls P f args (w.drewN n) fun e w'' => e = .returned v ∧ ∃ m, w'' = w.drewN m :=
  h.mono fun _ _ ⟨he, hw⟩ => ⟨he, n, hw.symm⟩
theorem quiet_q {P : Program} {f : FuncId} {args : Array Value} {w : World} {n : Nat} {v : Value}
    (h : Calls P f args (w.drewN n) fun e w' => e = .returned v ∧ Quiet (w.drewN n) w') : Calls P f args (w.drewN n) fun e w'' => e = .returned v ∧ ∃ m, w'' = w.drewN m :=
  h.mono fun _ _ ⟨he, m, hw⟩ => ⟨he, n + m, by rw [hw, World.drewN_drewN]⟩

def KeptRel (w : World) (ys : List UInt8) (i : Value) (wr : World) : Prop := ∃ k : Nat, k ≤ ys.length + 12 ∧ i = .int .i64 k ∧ Quiet w wr

theorem Lent.drewN {w : World} {A : Option Addr} {ys : List UInt8} (h : Lent w A ys) (n : Nat) : Lent (w.drewN n) A ys := h

set_option maxRecDepth 100000 in
set_option maxHeartbeats 1000000 in
theorem kept_u8 (w : World) (F : Nat → Prop) (A1 A2 : Option Addr) (c2 : Nat) (ys : List UInt8) (h1 : Lent w A1 ys) (h2 : Sl w F A2 (ys.map B8)) (hsz : ys.length ≤ 1000000000000) :
    Calls Tryz.prog 31 #[.slice A1 ys.length (ys.length + 12), .slice A2 ys.length c2] w fun e w' => e = .returned (.bool true) ∧ Quiet w w' := by
  have hs := slice_h (P := Tryz.prog) 22 under_bytes 1 size_bytes A1 ys.length (ys.length + 12) (ys.length + 12) (Nat.le_refl _)
  go_enter Tryz.func31, Tryz.ntmps31
  go_wp2_with fail
  go_loopw [6] (fun i wr => KeptRel w ys i wr) (fun i _ => ys.length + 12 - (intOf i).toNat)
  case atStart => exact ⟨0, by omega, rfl, Quiet.refl _⟩
  case round =>
    obtain ⟨k, hk, rfl, hq⟩ := hrel
    by_cases hlt : k < ys.length + 12
    · obtain ⟨b1, o1, rfl, _, hc1⟩ := h1.sl.get (k := k) (by simp [behind]; omega)
      rw [← hq.cell] at hc1
      have hi0 : (k : Int) < (ys.length : Int) + 12 := by omega
      by_cases hlt2 : k < ys.length
      · obtain ⟨b2, o2, rfl, _, hc2⟩ := h2.get hlt2
        rw [← hq.cell] at hc2
        rw [List.getElem_append_left hlt2] at hc1
        have hi1 : (k : Int) < (ys.length : Int) := by omega
        have hi2 : decide ((ys.length : Int) ≤ (k : Int)) = false := by simp; omega
        have hi3 : decide (ys.length ≤ k) = false := by simp; omega
        go_wp2_with fail
        go_quiet (fail)
        go_wp2_with fail
        go_roundw
        case rel => exact ⟨k + 1, by omega, by go_num, hq.drewN _⟩
        case measure => simp [intOf]; omega
      · rw [List.getElem_append_right (by omega)] at hc1
        have hv : behind[k - ys.length]'(by simp [behind]; omega) = mkB 1 (k - ys.length) := by simp [behind]
        rw [hv] at hc1
        clear hv
        have hi1 : decide ((k : Int) < (ys.length : Int)) = false := by simp; omega
        have hi3 : decide (k < ys.length) = false := by simp; omega
        have hi2 : (ys.length : Int) ≤ (k : Int) := by omega
        have hmk := fun w => markByte_any w 1 ((k : Int) - (ys.length : Int)) (by omega) (by omega) (by omega) (by omega)
        have hk2 : ((k : Int) - (ys.length : Int)).toNat = k - ys.length := by omega
        rw [hk2] at hmk
        clear hk2
        have HM := Lib.hid hmk
        clear hmk
        have hwr : IntKind.i64.wrap ((k : Int) - (ys.length : Int)) = (k : Int) - (ys.length : Int) := IntWalk.i64_in _ (by omega)
        go_wp2_with fail
        go_quiet ((go_at_call 73; exact quiet_left (HM.out _)))
        go_wp2_with fail
        go_roundw
        case rel => exact ⟨k + 1, by omega, by go_num, hq.drewN _⟩
        case measure => simp [intOf]; omega
    · go_wp2_with fail
      go_ret
      exact ⟨rfl, hq⟩

end Go.Proofs.YtkjnlhidnkbelaaGreatDoor
