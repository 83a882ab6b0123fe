/- Spans are right, on either side. -/
import Derived.Test.YtfglibkffcogcaaGreatSpB
namespace Go.Proofs.YtfglibkffcogcaaGreat
open Go Go.RowKit

theorem spanOk_eq (lo hi : List UInt8) : spanOk lo hi = ((decide (lo = []) || keyOk lo) && ((decide (hi = []) || keyOk hi) && aboveB hi lo)) := by
  rw [above_less]; rfl
set_option maxRecDepth 100000 in
set_option maxHeartbeats 4000000 in
theorem spanRight_any (w : World) (lo hi : List UInt8) (hl : lo.length ≤ 1000000000000) (hh : hi.length ≤ 1000000000000) :
    Calls Tryz.prog 91 #[.agg #[StrV lo, StrV hi]] w fun e w' => e = .returned (.bool (spanOk lo hi)) ∧ Nw w w' := by
  have hsp := spanOk_eq lo hi
  obtain ⟨zl, hzl⟩ : ∃ z, decide (lo = []) = z := ⟨_, rfl⟩
  obtain ⟨zh, hzh⟩ : ∃ z, decide (hi = []) = z := ⟨_, rfl⟩
  obtain ⟨kl, hkl⟩ : ∃ z, keyOk lo = z := ⟨_, rfl⟩
  obtain ⟨kh, hkh⟩ : ∃ z, keyOk hi = z := ⟨_, rfl⟩
  obtain ⟨ab, hab⟩ : ∃ z, aboveB hi lo = z := ⟨_, rfl⟩
  rw [hzl, hzh, hkl, hkh, hab] at hsp
  rw [hsp]
  obtain ⟨W0, hW0⟩ : ∃ W0, W0 = w.alloc (.cells #[StrV lo, StrV hi] 31) := ⟨_, rfl⟩
  have q0 : Nw w W0 := by rw [hW0]; exact (Fr.refl (fun _ => False) w).alloc _
  have b0 : Blk W0 w.heap.size 31 #[StrV lo, StrV hi] := by rw [hW0]; exact Blk.new w _ _
  have HW0 := Lib.hid hW0
  clear hW0
  have h1 := ends_any W0 lo hi
  have c0 : W0.cell? ⟨w.heap.size, 0, none⟩ = some (StrV lo) := by simpa using b0.cell 0
  have c1 : W0.cell? ⟨w.heap.size, 1, none⟩ = some (StrV hi) := by simpa using b0.cell 1
  go_enter Tryz.func91, Tryz.ntmps91
  go_upto_region 1 with (fail)
  rw [← HW0.out]
  go_wp2_with fail
  refine h1.mono ?_
  rintro e w1 ⟨rfl, q1⟩
  go_upto_region 2 with (fail)
  obtain ⟨W, hW⟩ : ∃ W, W = (w1.alloc (.cells #[.string ⟨lo.toArray⟩] 238)).alloc (.cells #[.string ⟨hi.toArray⟩] 239) := ⟨_, rfl⟩
  have q : Nw w W := by rw [hW]; exact ((q0.tr q1).alloc _).alloc _
  have q01 : Nw W0 W := by rw [hW]; exact (q1.alloc _).alloc _
  have b1 : Blk W w1.heap.size 238 #[StrV lo] := by
    rw [hW]
    exact (Blk.new w1 238 #[StrV lo]).fr ((Fr.refl (fun _ => False) _).alloc (.cells #[.string ⟨hi.toArray⟩] 239)) (fun h => h)
  have b2 : Blk W (w1.heap.size + 1) 239 #[StrV hi] := by
    rw [hW]
    have h := Blk.new (w1.alloc (.cells #[.string ⟨lo.toArray⟩] 238)) 239 #[StrV hi]
    simpa using h
  rw [← hW]
  have HW := Lib.hid hW
  clear hW
  have hS : ∀ w', Nw W w' → w'.cell? ⟨w.heap.size, 0, none⟩ = some (StrV lo) ∧ w'.cell? ⟨w.heap.size, 1, none⟩ = some (StrV hi) ∧ w'.cell? ⟨w1.heap.size, 0, none⟩ = some (StrV lo) ∧ w'.cell? ⟨w1.heap.size + 1, 0, none⟩ = some (StrV hi) := fun w' f => by
    have k0 := b0.fr (q01.tr f) (fun h => h)
    exact ⟨by simpa using k0.cell 0, by simpa using k0.cell 1, by simpa using (b1.fr f (fun h => h)).cell 0, by simpa using (b2.fr f (fun h => h)).cell 0⟩
  have n1 : ∀ w1, Nw W w1 → Calls Tryz.prog 118 #[.agg #[StrV lo]] w1 fun e w' => e = .returned (.bool zl) ∧ Nw W w' := fun w1 f => (none_any w1 lo).mono fun e w' h => by rw [hzl] at h; exact ⟨h.1, f.tr h.2⟩
  have n2 : ∀ w1, Nw W w1 → Calls Tryz.prog 118 #[.agg #[StrV hi]] w1 fun e w' => e = .returned (.bool zh) ∧ Nw W w' := fun w1 f => (none_any w1 hi).mono fun e w' h => by rw [hzh] at h; exact ⟨h.1, f.tr h.2⟩
  have k1 : ∀ w1, Nw W w1 → Calls Tryz.prog 119 #[StrV lo] w1 fun e w' => e = .returned (.bool kl) ∧ Nw W w' := fun w1 f => (spanKey_any w1 lo hl).mono fun e w' h => by rw [hkl] at h; exact ⟨h.1, h.2 ▸ f⟩
  have k2 : ∀ w1, Nw W w1 → Calls Tryz.prog 119 #[StrV hi] w1 fun e w' => e = .returned (.bool kh) ∧ Nw W w' := fun w1 f => (spanKey_any w1 hi hh).mono fun e w' h => by rw [hkh] at h; exact ⟨h.1, h.2 ▸ f⟩
  have a1 : ∀ w1, Nw W w1 → Calls Tryz.prog 120 #[.agg #[StrV hi], .agg #[StrV lo]] w1 fun e w' => e = .returned (.bool ab) ∧ Nw W w' := fun w1 f => (above_any w1 hi lo).mono fun e w' h => by rw [hab] at h; exact ⟨h.1, f.tr h.2⟩
  have Q : Nw W W := Fr.refl _ _
  obtain ⟨e0, e1, e2, e3⟩ := hS W Q
  clear hzl hzh hkl hkh hab hsp c0 c1 b0 b1 b2 q01
  go_wp2_with fail
  refine (n1 _ (by assumption)).mono ?_
  rintro e w3 ⟨rfl, Q⟩
  obtain ⟨e0, e1, e2, e3⟩ := hS _ Q
  cases zl with
  | true =>
    go_wp2_with fail
    refine (n2 _ (by assumption)).mono ?_
    rintro e w3 ⟨rfl, Q⟩
    obtain ⟨e0, e1, e2, e3⟩ := hS _ Q
    cases zh with
    | true =>
      go_wp2_with fail
      refine (a1 _ (by assumption)).mono ?_
      rintro e w3 ⟨rfl, Q⟩
      go_wp2_with fail
      go_ret
      exact ⟨by simp, q.tr (by assumption)⟩
    | false =>
      go_wp2_with fail
      refine (k2 _ (by assumption)).mono ?_
      rintro e w3 ⟨rfl, Q⟩
      obtain ⟨e0, e1, e2, e3⟩ := hS _ Q
      cases kh with
      | false =>
        go_wp2_with fail
        go_ret
        exact ⟨by simp, q.tr (by assumption)⟩
      | true =>
        go_wp2_with fail
        refine (a1 _ (by assumption)).mono ?_
        rintro e w3 ⟨rfl, Q⟩
        go_wp2_with fail
        go_ret
        exact ⟨by simp, q.tr (by assumption)⟩
  | false =>
    go_wp2_with fail
    refine (k1 _ (by assumption)).mono ?_
    rintro e w3 ⟨rfl, Q⟩
    obtain ⟨e0, e1, e2, e3⟩ := hS _ Q
    cases kl with
    | false =>
      go_wp2_with fail
      go_ret
      exact ⟨by simp, q.tr (by assumption)⟩
    | true =>
      go_wp2_with fail
      refine (n2 _ (by assumption)).mono ?_
      rintro e w3 ⟨rfl, Q⟩
      obtain ⟨e0, e1, e2, e3⟩ := hS _ Q
      cases zh with
      | true =>
        go_wp2_with fail
        refine (a1 _ (by assumption)).mono ?_
        rintro e w3 ⟨rfl, Q⟩
        go_wp2_with fail
        go_ret
        exact ⟨by simp, q.tr (by assumption)⟩
      | false =>
        go_wp2_with fail
        refine (k2 _ (by assumption)).mono ?_
        rintro e w3 ⟨rfl, Q⟩
        obtain ⟨e0, e1, e2, e3⟩ := hS _ Q
        cases kh with
        | false =>
          go_wp2_with fail
          go_ret
          exact ⟨by simp, q.tr (by assumption)⟩
        | true =>
          go_wp2_with fail
          refine (a1 _ (by assumption)).mono ?_
          rintro e w3 ⟨rfl, Q⟩
          go_wp2_with fail
          go_ret
          exact ⟨by simp, q.tr (by assumption)⟩
theorem spanOk_ref (lo hi : List UInt8) : spanOk lo hi = ((decide (lo = []) || keyOk lo) && (decide (hi = []) || (keyOk hi && Go.Op.bytesLess lo hi))) := by
  unfold spanOk
  cases decide (lo = []) <;> cases keyOk lo <;> cases decide (hi = []) <;> cases keyOk hi <;> cases Go.Op.bytesLess lo hi <;> rfl
set_option maxRecDepth 100000 in
set_option maxHeartbeats 4000000 in
theorem refRight_any (w : World) (lo hi : List UInt8) (hl : lo.length ≤ 1000000000000) (hh : hi.length ≤ 1000000000000) :
    Calls Tryz.prog 92 #[.agg #[StrV lo, StrV hi]] w fun e w' => e = .returned (.bool (spanOk lo hi)) ∧ Nw w w' := by
  have hsp := spanOk_ref lo hi
  obtain ⟨zl, hzl⟩ : ∃ z, decide (lo = []) = z := ⟨_, rfl⟩
  obtain ⟨zh, hzh⟩ : ∃ z, decide (hi = []) = z := ⟨_, rfl⟩
  obtain ⟨kl, hkl⟩ : ∃ z, keyOk lo = z := ⟨_, rfl⟩
  obtain ⟨kh, hkh⟩ : ∃ z, keyOk hi = z := ⟨_, rfl⟩
  obtain ⟨ab, hab⟩ : ∃ z, Go.Op.bytesLess lo hi = z := ⟨_, rfl⟩
  have el : lo.isEmpty = zl := by rw [← hzl]; cases lo <;> rfl
  have eh : hi.isEmpty = zh := by rw [← hzh]; cases hi <;> rfl
  rw [hzl, hzh, hkl, hkh, hab] at hsp
  rw [hsp]
  obtain ⟨W, hW⟩ : ∃ W, W = w.alloc (.cells #[StrV lo, StrV hi] 31) := ⟨_, rfl⟩
  have q : Nw w W := by rw [hW]; exact (Fr.refl (fun _ => False) w).alloc _
  have b0 : Blk W w.heap.size 31 #[StrV lo, StrV hi] := by rw [hW]; exact Blk.new w _ _
  have HW := Lib.hid hW
  clear hW
  have e0 : W.cell? ⟨w.heap.size, 0, none⟩ = some (StrV lo) := by simpa using b0.cell 0
  have e1 : W.cell? ⟨w.heap.size, 1, none⟩ = some (StrV hi) := by simpa using b0.cell 1
  have k1 : Calls Tryz.prog 121 #[StrV lo] W fun e w' => e = .returned (.bool kl) ∧ W = w' := (refKey_any W lo hl).mono fun e w' h => by rw [hkl] at h; exact h
  have k2 : Calls Tryz.prog 121 #[StrV hi] W fun e w' => e = .returned (.bool kh) ∧ W = w' := (refKey_any W hi hh).mono fun e w' h => by rw [hkh] at h; exact h
  clear hzl hzh hkl hkh hsp b0
  go_enter Tryz.func92, Tryz.ntmps92
  go_upto_region 1 with (fail)
  rw [← HW.out]
  cases zl with
  | true =>
    cases zh with
    | true =>
      go_wp2_with fail
      go_ret
      exact ⟨by simp, q⟩
    | false =>
      go_wp2_with fail
      refine k2.mono ?_
      rintro e w3 ⟨rfl, rfl⟩
      cases kh with
      | false =>
        go_wp2_with fail
        go_ret
        exact ⟨by simp, q⟩
      | true =>
        go_wp2_with fail
        go_ret
        exact ⟨by simp, q⟩
  | false =>
    go_wp2_with fail
    refine k1.mono ?_
    rintro e w3 ⟨rfl, rfl⟩
    cases kl with
    | false =>
      go_wp2_with fail
      go_ret
      exact ⟨by simp, q⟩
    | true =>
      cases zh with
      | true =>
        go_wp2_with fail
        go_ret
        exact ⟨by simp, q⟩
      | false =>
        go_wp2_with fail
        refine k2.mono ?_
        rintro e w3 ⟨rfl, rfl⟩
        cases kh with
        | false =>
          go_wp2_with fail
          go_ret
          exact ⟨by simp, q⟩
        | true =>
          go_wp2_with fail
          go_ret
          exact ⟨by simp, q⟩
end Go.Proofs.YtfglibkffcogcaaGreat
