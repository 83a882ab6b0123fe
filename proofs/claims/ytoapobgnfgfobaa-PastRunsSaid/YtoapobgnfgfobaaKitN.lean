/- The statements' kit: names that are lent. -/
import Derived.Test.YtoapobgnfgfobaaNmA
import Derived.Test.YtoapobgnfgfobaaKitB
namespace Go.Proofs.Ytoapobgnfgfobaa
open Go Go.RowKit

/-- The mark of a place in a list of names. -/
def mkN (k i : Nat) : Nm := (0, 1000003 * ((k : Int) + 7) + (i : Int))
theorem markName_any (w : World) (k i : Int) (hk : 0 ≤ k) (hk2 : k ≤ 1000000000000) (hi : 0 ≤ i) (hi2 : i ≤ 100000000000000) :
    Calls Try.prog 61 #[.int .i64 k, .int .i64 i] w fun e w' => e = .returned (NmV (mkN k.toNat i.toNat)) ∧ Nw w w' := by
  have e1 : ((k.toNat : Nat) : Int) = k := by omega
  have e2 : ((i.toNat : Nat) : Int) = i := by omega
  unfold mkN
  rw [e1, e2]
  clear e1 e2
  go_enter Try.func61, Try.ntmps61
  go_wp2_with (go_at_call 84; refine (mark_any _ _ _ hk hk2 hi hi2).mono ?_; rintro e w1 ⟨rfl, rfl⟩)
  refine bodyPost_ret (v := NmV (0, 1000003 * (k + 7) + i)) (by simp [results, Try.results61, go_sem]) rfl ⟨rfl, (Fr.refl _ w).alloc _⟩

/-- The marks behind what is lent. -/
def behindN : List Nm := (List.range 12).map (mkN 1)
def LentN (w : World) (A : Option Addr) (ys : List Nm) : Prop := Own w 53 2 A (ys.length + 12) (ys.length + 12) (nmCells (ys ++ behindN))

def LentNRel (w : World) (g : Nat) (ys : List Nm) (v i : Value) (wr : World) : Prop :=
  ∃ k : Nat, k ≤ 12 ∧ i = .int .i64 k ∧ v = .slice (some ⟨g, 0, none⟩) (ys.length + k) (ys.length + 12) ∧ Own wr 53 2 (some ⟨g, 0, none⟩) (ys.length + k) (ys.length + 12) (nmCells (ys ++ (List.range k).map (mkN 1))) ∧ Nw w wr

set_option maxRecDepth 100000 in
theorem lent_names (w : World) (F : Nat → Prop) (A : Option Addr) (c : Nat) (ys : List Nm) (h : Sl w F A (nmCells ys)) (hsz : ys.length ≤ 1000000000000) :
    Calls Try.prog 13 #[.slice A ys.length c] w fun e w' => ∃ g, e = .returned (.slice (some ⟨g, 0, none⟩) ys.length (ys.length + 12)) ∧ LentN w' (some ⟨g, 0, none⟩) ys ∧ Nw w w' ∧ w.heap.size ≤ g := by
  go_enter Try.func13, Try.ntmps13
  go_wp2_with (first | (at_make; refine wl_make0 rfl _ _ _ rfl 16 (.agg #[.int .i64 0, .int .i64 0]) Try.underlying23 info_name .i64 .i64 ((ys.length : Int) + 12) (ys.length + 12) rfl rfl (by omega) (by omega) (by unfold maxLen; omega) ?_; intro w1 ho1 hq1; have hs1 := h.fr hq1 (fun _ _ h => h)) | (at_builtin; refine wl_append2 rfl _ _ _ rfl 16 (.agg #[.int .i64 0, .int .i64 0]) Try.underlying23 info_name rfl (by decide) rfl ho1 rfl hs1 (nmCells_len ys) (nm_one ys) (by omega) (by unfold maxLen; omega) ?_; intro A' cap' w2 hap))
  rcases hap with ⟨ho2, _, ⟨_, rfl, rfl, hf2⟩ | ⟨hlt, _⟩⟩
  rotate_left
  · omega
  simp only [Nat.zero_add, List.nil_append] at ho2 ⊢
  have hq2 : Nw w w2 := hq1.new hf2 (fun k hk => by rw [(inA_some _ _).1 hk]; exact Nat.le_refl _)
  clear hf2 ho1 hs1 hq1
  go_wp2_with fail
  go_loopw [3, 4] (fun v i wr => LentNRel w w.heap.size ys v i wr) (fun _ i _ => 12 - (intOf i).toNat)
  case atStart => exact ⟨0, by omega, rfl, rfl, by simpa using ho2, hq2⟩
  case round =>
    obtain ⟨k, hk, rfl, rfl, ho, hq⟩ := hrel
    by_cases hlt : k < 12
    · have hmk := fun W => markName_any W 1 (k : Int) (by omega) (by omega) (by omega) (by omega)
      rw [Int.toNat_natCast, show (1 : Int).toNat = 1 from rfl] at hmk
      have hcells : nmCells [mkN 1 k] = [I64 (mkN 1 k).1, I64 (mkN 1 k).2] := rfl
      have happ : nmCells (ys ++ (List.range (k + 1)).map (mkN 1)) = nmCells (ys ++ (List.range k).map (mkN 1)) ++ nmCells [mkN 1 k] := by
        rw [List.range_succ, List.map_append, ← List.append_assoc, nmCells_append]
        rfl
      generalize mkN 1 k = x at hmk hcells happ
      have HM := Lib.hid hmk
      have HA := Lib.hid happ
      clear hmk hcells happ
      go_wp2_with (first | (go_at_call 61; refine (HM.out _).mono ?_; rintro e w3 ⟨rfl, q3⟩) | (at_builtin; refine wl_append2 rfl _ _ _ rfl 16 (.agg #[.int .i64 0, .int .i64 0]) Try.underlying23 info_name rfl (by decide) rfl ((ho.fr q3 (fun _ _ h => h)).alloc _) rfl (sl_new w3 53 (nmCells [x]) _ rfl) rfl (nm_one [x]) (by omega) (by unfold maxLen; omega) ?_; intro A' cap' w2 hap))
      rcases hap with ⟨ho3, _, ⟨_, rfl, rfl, hf3⟩ | ⟨hlt, _⟩⟩
      rotate_left
      · omega
      have hq3 : Nw w w2 := ((hq.tr q3).alloc _).new hf3 (fun k hk => by rw [(inA_some _ _).1 hk]; exact Nat.le_refl _)
      go_wp2_with fail
      go_roundw
      case rel =>
        refine ⟨k + 1, by omega, by go_num, by simp [Nat.add_assoc], ?_, hq3⟩
        rw [HA.out]
        exact ho3
      case measure => simp [intOf]; omega
    · have hk12 : k = 12 := by omega
      subst hk12
      have hs := slice_h (P := Try.prog) 23 under_names 2 size_names (some ⟨w.heap.size, 0, none⟩) (ys.length + 12) (ys.length + 12) ys.length (by omega)
      go_wp2_with fail
      go_ret
      exact ⟨_, rfl, ho, hq, Nat.le_refl _⟩

def KeptNRel (w : World) (ys : List Nm) (i : Value) (wr : World) : Prop := ∃ k : Nat, k ≤ ys.length + 12 ∧ i = .int .i64 k ∧ Nw w wr

set_option maxRecDepth 100000 in
set_option maxHeartbeats 1000000 in
theorem kept_names (w : World) (F : Nat → Prop) (A1 A2 : Option Addr) (c2 : Nat) (ys : List Nm) (h1 : LentN w A1 ys) (h2 : Sl w F A2 (nmCells ys)) (hsz : ys.length ≤ 1000000000000) :
    Calls Try.prog 19 #[.slice A1 ys.length (ys.length + 12), .slice A2 ys.length c2] w fun e w' => e = .returned (.bool true) ∧ Nw w w' := by
  have hs := slice_h (P := Try.prog) 23 under_names 2 size_names A1 ys.length (ys.length + 12) (ys.length + 12) (Nat.le_refl _)
  go_enter Try.func19, Try.ntmps19
  go_wp2_with fail
  go_loopw [6] (fun i wr => KeptNRel w ys i wr) (fun i _ => ys.length + 12 - (intOf i).toNat)
  case atStart => exact ⟨0, by omega, rfl, Fr.refl _ _⟩
  case round =>
    obtain ⟨k, hk, rfl, hq⟩ := hrel
    by_cases hlt : k < ys.length + 12
    · obtain ⟨b1, o1, rfl, _, hc1, hc2⟩ := (h1.sl.fr hq (fun _ _ h => h)).name (k := k) (by simp [behindN]; omega)
      have hi0 : (k : Int) < (ys.length : Int) + 12 := by omega
      by_cases hlt2 : k < ys.length
      · obtain ⟨b2, o2, rfl, _, hd1, hd2⟩ := (h2.fr hq (fun _ _ h => h)).name hlt2
        rw [List.getElem_append_left hlt2] at hc1 hc2
        have hi1 : (k : Int) < (ys.length : Int) := by omega
        have hi2 : decide ((ys.length : Int) ≤ (k : Int)) = false := by simp; omega
        have hi3 : decide (ys.length ≤ k) = false := by simp; omega
        have d1 := fun (n : Later wr) => n.cell hc1
        have d2 := fun (n : Later wr) => n.cell hc2
        have d3 := fun (n : Later wr) => n.cell hd1
        have d4 := fun (n : Later wr) => n.cell hd2
        clear hc1 hc2 hd1 hd2
        go_wp2_with fail
        refine wp_region_later (by kernel_rfl) (by kernel_rfl) ?_
        repeat (go_big_quiet_step (fail))
        refine wpQuiet_later fun w5 q5 => ?_
        go_wp2_with fail
        go_roundw
        case rel => exact ⟨k + 1, by omega, by go_num, hq.tr q5⟩
        case measure => simp [intOf]; omega
      · rw [List.getElem_append_right (by omega)] at hc1 hc2
        have hv : behindN[k - ys.length]'(by simp [behindN]; omega) = mkN 1 (k - ys.length) := by simp [behindN]
        rw [hv] at hc1 hc2
        clear hv
        have hi1 : decide ((k : Int) < (ys.length : Int)) = false := by simp; omega
        have hi3 : decide (k < ys.length) = false := by simp; omega
        have hi2 : (ys.length : Int) ≤ (k : Int) := by omega
        have hmk := fun w => markName_any w 1 ((k : Int) - (ys.length : Int)) (by omega) (by omega) (by omega) (by omega)
        have hk2 : ((k : Int) - (ys.length : Int)).toNat = k - ys.length := by omega
        rw [hk2, show (1 : Int).toNat = 1 from rfl] at hmk
        clear hk2
        generalize mkN 1 (k - ys.length) = x at hmk hc1 hc2
        have HM := Lib.hid hmk
        clear hmk
        have hwr : IntKind.i64.wrap ((k : Int) - (ys.length : Int)) = (k : Int) - (ys.length : Int) := IntWalk.i64_in _ (by omega)
        have d1 := fun (n : Later wr) => n.cell hc1
        have d2 := fun (n : Later wr) => n.cell hc2
        clear hc1 hc2
        go_wp2_with fail
        refine wp_region_later (by kernel_rfl) (by kernel_rfl) ?_
        repeat (go_big_quiet_step ((go_at_call 61; exact Later.call (HM.out _))))
        refine wpQuiet_later fun w5 q5 => ?_
        go_wp2_with fail
        go_roundw
        case rel => exact ⟨k + 1, by omega, by go_num, hq.tr q5⟩
        case measure => simp [intOf]; omega
    · go_wp2_with fail
      go_ret
      exact ⟨rfl, hq⟩
end Go.Proofs.Ytoapobgnfgfobaa
