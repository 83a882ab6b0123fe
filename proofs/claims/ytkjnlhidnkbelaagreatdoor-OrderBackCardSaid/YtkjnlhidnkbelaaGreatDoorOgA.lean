/- Orders: the law's example. -/
import Derived.Test.YtkjnlhidnkbelaaGreatDoorOwC
import Derived.Test.YtkjnlhidnkbelaaGreatDoorOfE
import Derived.Test.YtkjnlhidnkbelaaGreatDoorKitB
namespace Go.Proofs.YtkjnlhidnkbelaaGreatDoor
open Go Go.RowKit

set_option maxRecDepth 100000 in
theorem oidxNil_any (w : World) : Calls Tryz.prog 98 #[.slice none 0 0, .func (.func 46) #[] #[]] w fun e w' => e = .returned (.int .i64 (-1)) ∧ w = w' := by
  go_enter Tryz.func98, Tryz.ntmps98
  go_wp2_with fail
  refine wp_loop_rounds 1 ?_
  rw [rounds_succ]
  go_wp2_with fail
  go_ret
  exact ⟨rfl, rfl⟩
set_option maxRecDepth 100000 in
theorem oRightNil_any (w : World) : Calls Tryz.prog 11 #[.slice none 0 0] w fun e w' => e = .returned (.bool true) ∧ w = w' := by
  have h2 : ∀ w, Calls Tryz.prog 45 #[.slice none 0 0, .func (.func 46) #[] #[]] w fun e w' => e = .returned (.bool false) ∧ w = w' := fun w => by
    have h1 := fun w => oidxNil_any w
    go_enter Tryz.func45, Tryz.ntmps45
    go_wp2_with fail
    refine (h1 _).mono ?_
    rintro e w1 ⟨rfl, rfl⟩
    go_wp2_with fail
    go_ret
    exact ⟨rfl, rfl⟩
  go_enter Tryz.func11, Tryz.ntmps11
  go_wp2_with fail
  refine (h2 _).mono ?_
  rintro e w1 ⟨rfl, rfl⟩
  go_wp2_with fail
  go_ret
  exact ⟨rfl, rfl⟩
theorem look_right : ordOk lookO = true := by decide +kernel
theorem look_bytes : ordB lookO = [10, 1, 2, 0, 0, 0, 0, 0, 0, 0, 0, 0, 0] := by decide +kernel
theorem zero_wrong : ordOk (ordZ 0) = false := by decide +kernel
theorem zero_sound : ansOk ansZ = true := by decide +kernel
theorem OrdSz.small {x : OrdF} (h : OrdSm x) : OrdSz x := by
  refine ⟨by have := h.kind; omega, ⟨by have := h.acts.1; omega, fun a ha => ?_⟩, ⟨by have := h.reads.1; omega, fun a ha => ?_⟩, by have := h.bytes; omega, by have := h.lo; omega, by have := h.hi; omega⟩
  · obtain ⟨h1, h2, h3, _⟩ := actOk_sm (h.acts.2 a ha)
    exact ⟨by omega, by omega, by omega⟩
  · obtain ⟨h1, h2⟩ := rdgOk_len (h.reads.2 a ha)
    exact ⟨by omega, by omega⟩
theorem zero_sz (k : Int) (hk : 0 ≤ k ∧ k ≤ 255) : OrdSz (ordZ k) := ⟨hk, ⟨Nat.zero_le _, fun a h => by cases h⟩, ⟨Nat.zero_le _, fun a h => by cases h⟩, Nat.zero_le _, Nat.zero_le _, Nat.zero_le _⟩
theorem look_in (w : World) : OrdIn w (fun _ => False) lookO plZ := ⟨.inl rfl, .inl rfl, .inl rfl, ⟨Nat.le_refl _, Nat.zero_le _⟩, ⟨Nat.le_refl _, Nat.zero_le _⟩, ⟨Nat.le_refl _, Nat.zero_le _⟩⟩
theorem ansz_in (w : World) : AnsIn w (fun _ => False) ansZ plZ := ⟨.inl rfl, .inl rfl, ⟨Nat.le_refl _, Nat.zero_le _⟩, ⟨Nat.le_refl _, Nat.zero_le _⟩⟩
abbrev lookB : List UInt8 := [10, 1, 2, 0, 0, 0, 0, 0, 0, 0, 0, 0, 0]
theorem zero_ten : (Builtin.zeroCells #[Value.int .u8 0] 10).toList = [.int .u8 0, .int .u8 0, .int .u8 0, .int .u8 0, .int .u8 0, .int .u8 0, .int .u8 0, .int .u8 0, .int .u8 0, .int .u8 0] := by kernel_rfl
theorem look_sl (w : World) (R : Array Value) (n : Nat) (hn : w.heap.size = n) : Sl (w.alloc (.cells (#[.int .u8 10, .int .u8 1, .int .u8 2] ++ (Builtin.zeroCells #[.int .u8 0] 10 ++ R)) 5)) (· = n) (some ⟨n, 0, none⟩) (lookB.map B8) := by
  subst hn
  have h := (Blk.new w 5 (#[.int .u8 10, .int .u8 1, .int .u8 2] ++ (Builtin.zeroCells #[.int .u8 0] 10 ++ R))).sl 0 13
  have e : ((#[.int .u8 10, .int .u8 1, .int .u8 2] ++ (Builtin.zeroCells #[.int .u8 0] 10 ++ R) : Array Value).toList.drop 0).take 13 = lookB.map B8 := by
    rw [List.drop_zero, Array.toList_append, Array.toList_append, zero_ten]
    rfl
  rw [e] at h
  exact h
set_option maxRecDepth 100000 in
set_option maxHeartbeats 4000000 in
theorem awake22_any (w : World) : Calls Tryz.prog 13 #[] w fun e w' => e = .returned (.bool true) ∧ Nw w w' := by
  have hlook := fun w => look_any w
  have hput : ∀ w, Calls Tryz.prog 9 #[.agg (ofA (U8V lookO.kind) lookO plZ)] w fun e w' => ∃ A c, e = .returned (.tuple #[.slice A 13 c, .int .i64 0]) ∧ Own w' 5 1 A 13 c (([10, 1, 2, 0, 0, 0, 0, 0, 0, 0, 0, 0, 0] : List UInt8).map B8) ∧ Nw w w' ∧ ∀ k, inA A k → w.heap.size ≤ k := fun w => by
    have h := oput_any w _ lookO plZ (look_in w) (OrdSz.small (ordOk_sm look_right))
    rw [if_pos look_right, look_bytes] at h
    exact h
  have hrn := fun w => oRightNil_any w
  go_enter Tryz.func13, Tryz.ntmps13
  go_wp2_with fail
  refine (hlook _).mono ?_
  rintro e w1 ⟨rfl, q1⟩
  go_wp2_with fail
  refine (hput _).mono ?_
  rintro e w2 ⟨A, c, rfl, ho, q2, hA⟩
  obtain ⟨W3, hW3⟩ : ∃ W3, W3 = w2.alloc (.cells #[.int .u8 10, .int .u8 1, .int .u8 2] 5) := ⟨_, rfl⟩
  have q3 : Nw w2 W3 := by rw [hW3]; exact (Fr.refl (fun _ => False) w2).alloc _
  have hz3 : W3.heap.size = w2.heap.size + 1 := by rw [hW3]; simp
  have hl4 := fun R => look_sl W3 R (w2.heap.size + 1) hz3
  have HW3 := Lib.hid hW3
  clear hW3
  go_upto_region 2 with (fail)
  go_wp2_with fail
  rw [← HW3.out]
  generalize (Question.appendCap 13 3 5).cut (w2.tape w2.drawn (Question.appendCap 13 3 5)) = cp
  have hq4 : Nw W3 (W3.alloc (.cells (#[.int .u8 10, .int .u8 1, .int .u8 2] ++ (Builtin.zeroCells #[.int .u8 0] 10 ++ Builtin.zeroCells #[.int .u8 0] (cp - 13))) 5)).drew := ((Fr.refl (fun _ => False) W3).alloc _).drew
  have hs4 := hl4 (Builtin.zeroCells #[.int .u8 0] (cp - 13))
  generalize (W3.alloc (.cells (#[.int .u8 10, .int .u8 1, .int .u8 2] ++ (Builtin.zeroCells #[.int .u8 0] 10 ++ Builtin.zeroCells #[.int .u8 0] (cp - 13))) 5)) = W4 at hq4 hs4 ⊢
  have q4d : Nw w2 W4.drew := q3.tr hq4
  have hsm : Calls Tryz.prog 23 #[.slice A 13 c, .slice (some ⟨w2.heap.size + 1, 0, none⟩) 13 cp] W4.drew fun e w' => e = .returned (.bool true) ∧ Nw W4.drew w' := by
    refine (same_u8 W4.drew (inA A) (· = w2.heap.size + 1) A (some ⟨w2.heap.size + 1, 0, none⟩) c cp lookB lookB (ho.sl.fr q4d (fun _ _ h => h)) (hs4.fr (Fr.refl (fun _ => False) W4).drew (fun _ _ h => h)) (by decide)).mono ?_
    rintro e w' ⟨h1, h2⟩
    exact ⟨by simpa using h1, h2.fr _⟩
  have q24 : Nw w W4.drew := (q1.tr q2).tr q4d
  clear hs4 hq4 hl4 q4d ho
  refine hsm.mono ?_
  rintro e w5 ⟨rfl, q5⟩
  have Q5 := q24.tr q5
  clear hsm
  go_wp2_with fail
  refine (hlook _).mono ?_
  rintro e w6 ⟨rfl, q6⟩
  have Q6 := Q5.tr q6
  have h7 := oRight_any (w6.alloc (.cells (ofA (U8V lookO.kind) lookO plZ) 31)) (fun _ => False) w6.heap.size lookO plZ (Blk.new w6 _ _) (look_in _) (OrdSz.small (ordOk_sm look_right))
  rw [look_right] at h7
  go_wp2_with fail
  refine h7.mono ?_
  rintro e w7 ⟨rfl, q7⟩
  have Q7 := Q6.tr (((Fr.refl (fun _ => False) w6).alloc _).tr q7)
  clear h7
  go_wp2_with fail
  refine (hrn _).mono ?_
  rintro e w8 ⟨rfl, rfl⟩
  have h8 := oRight_any (w7.alloc (.cells (ofA (U8V (ordZ 0).kind) (ordZ 0) plZ) 31)) (fun _ => False) w7.heap.size (ordZ 0) plZ (Blk.new w7 _ _) (OrdIn.zero _ _ _) (zero_sz 0 (by decide))
  rw [zero_wrong] at h8
  go_wp2_with fail
  refine h8.mono ?_
  rintro e w9 ⟨rfl, q9⟩
  have Q9 := Q7.tr (((Fr.refl (fun _ => False) w7).alloc _).tr q9)
  clear h8
  have h9 := oSound_any (w9.alloc (.cells (afA ansZ plZ) 41)) (fun _ => False) w9.heap.size ansZ plZ (Blk.new w9 _ _) (ansz_in _) ⟨⟨Nat.zero_le _, fun a h => by cases h⟩, Nat.zero_le _⟩
  rw [zero_sound] at h9
  go_wp2_with fail
  refine h9.mono ?_
  rintro e w10 ⟨rfl, q10⟩
  have Q10 := Q9.tr (((Fr.refl (fun _ => False) w9).alloc _).tr q10)
  clear h9
  go_wp2_with fail
  go_ret
  exact ⟨rfl, Q10⟩
end Go.Proofs.YtkjnlhidnkbelaaGreatDoor
