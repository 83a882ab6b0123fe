/- Handoffs are right: the program's. -/
import Derived.Test.YtfglibkffcogcaaGreatScA
namespace Go.Proofs.YtfglibkffcogcaaGreat
open Go Go.RowKit

/-- What a handoff is asked, part by part. -/
def underB (x : Sch) : Bool := if turnedB x = true then decide (x.epoch + 1 ≤ x.under) && decide (x.under ≤ 1073741824) else decide (x.under = 0)
def groupsB (x : Sch) : Bool := (decide (1 ≤ x.src) && decide (x.src ≤ 4)) && ((decide (1 ≤ x.dst) && decide (x.dst ≤ 4)) && decide (x.src ≠ x.dst))
theorem schOk_eq (x : Sch) : schOk x = ((decide (1 ≤ x.num) && decide (x.num ≤ 1073741824)) && (spanOk x.lo x.hi && (groupsB x && ((decide (1 ≤ x.epoch) && decide (x.epoch ≤ 1073741824)) && (decide (1 ≤ x.stage ∧ x.stage ≤ 9) && underB x))))) := by
  have hu : underOk x = underB x := by
    unfold underOk underB turnedB
    by_cases h : 4 ≤ x.stage ∧ x.stage ≤ 6
    · rw [if_pos h, decide_eq_true h, if_pos rfl, Bool.decide_and]
      congr 1
    · rw [if_neg h, decide_eq_false h, if_neg (by decide)]
  have hg : decide ((1 ≤ x.src ∧ x.src ≤ 4) ∧ (1 ≤ x.dst ∧ x.dst ≤ 4) ∧ x.src ≠ x.dst) = groupsB x := by
    unfold groupsB
    simp only [Bool.decide_and]
  unfold schOk
  rw [hu, hg, Bool.decide_and (1 ≤ x.num), Bool.decide_and (1 ≤ x.epoch)]
/-- The under of a handoff, as the program reckons it. -/
def underW (x : Sch) : Bool := if turnedB x = true then decide (wrap64 (x.epoch + 1) ≤ x.under) && decide (x.under ≤ 1073741824) else decide (x.under = 0)
theorem schOk_w (x : Sch) : schOk x = ((decide (1 ≤ x.num) && decide (x.num ≤ 1073741824)) && (spanOk x.lo x.hi && (groupsB x && ((decide (1 ≤ x.epoch) && decide (x.epoch ≤ 1073741824)) && (decide (1 ≤ x.stage ∧ x.stage ≤ 9) && underW x))))) := by
  rw [schOk_eq]
  by_cases h : 1 ≤ x.epoch ∧ x.epoch ≤ 1073741824
  · have e : wrap64 (x.epoch + 1) = x.epoch + 1 := by unfold wrap64; omega
    have : underW x = underB x := by unfold underW underB; rw [e]
    rw [this]
  · have : (decide (1 ≤ x.epoch) && decide (x.epoch ≤ 1073741824)) = false := by
      rw [← Bool.decide_and]; exact decide_eq_false h
    rw [this]
    simp
set_option maxRecDepth 100000 in
set_option maxHeartbeats 8000000 in
theorem wright_any (w : World) (x : Sch) (hl : x.lo.length ≤ 1000000000000) (hh : x.hi.length ≤ 1000000000000) (hst : 0 ≤ x.stage ∧ x.stage ≤ 255) :
    Calls Tryz.prog 51 #[.agg (schA x)] w fun e w' => e = .returned (.bool (schOk x)) ∧ Nw w w' := by
  rw [schOk_w]
  obtain ⟨W, hW⟩ : ∃ W, W = w.alloc (.cells (schA x) 122) := ⟨_, rfl⟩
  have q0 : Nw w W := by rw [hW]; exact (Fr.refl (fun _ => False) w).alloc _
  have b0 : Blk W w.heap.size 122 (schA x) := by rw [hW]; exact Blk.new w _ _
  have HW := Lib.hid hW
  clear hW
  have hS : ∀ w', Nw W w' → w'.cell? ⟨w.heap.size, 0, none⟩ = some (I64 x.num) ∧ w'.cell? ⟨w.heap.size, 1, none⟩ = some (StrV x.lo) ∧ w'.cell? ⟨w.heap.size, 2, none⟩ = some (StrV x.hi) ∧ w'.cell? ⟨w.heap.size, 3, none⟩ = some (I64 x.src) ∧ w'.cell? ⟨w.heap.size, 4, none⟩ = some (I64 x.dst) ∧ w'.cell? ⟨w.heap.size, 5, none⟩ = some (I64 x.epoch) ∧ w'.cell? ⟨w.heap.size, 6, none⟩ = some (I64 x.under) ∧ w'.cell? ⟨w.heap.size, 7, none⟩ = some (U8V x.stage) := fun w' f => by
    have k := b0.fr f (fun h => h)
    exact ⟨by simpa using k.cell 0, by simpa using k.cell 1, by simpa using k.cell 2, by simpa using k.cell 3, by simpa using k.cell 4, by simpa using k.cell 5, by simpa using k.cell 6, by simpa using k.cell 7⟩
  have hS7 : ∀ w', Nw W w' → w'.cell? ⟨w.heap.size, 7, none⟩ = some (U8V x.stage) := fun w' f => (hS w' f).2.2.2.2.2.2.2
  have hww := ways_any W.drew
  have hQ0 : Nw W W.drew := (Fr.refl (fun _ => False) W).drew
  obtain ⟨n1, hn1⟩ : ∃ z, (decide (1 ≤ x.num) && decide (x.num ≤ 1073741824)) = z := ⟨_, rfl⟩
  obtain ⟨sp, hsp⟩ : ∃ z, spanOk x.lo x.hi = z := ⟨_, rfl⟩
  obtain ⟨ep, hep⟩ : ∃ z, (decide (1 ≤ x.epoch) && decide (x.epoch ≤ 1073741824)) = z := ⟨_, rfl⟩
  obtain ⟨st, hst1⟩ : ∃ z, decide (1 ≤ x.stage ∧ x.stage ≤ 9) = z := ⟨_, rfl⟩
  obtain ⟨g1, hg1⟩ : ∃ z, (decide (1 ≤ x.src) && decide (x.src ≤ 4)) = z := ⟨_, rfl⟩
  obtain ⟨g2, hg2⟩ : ∃ z, (decide (1 ≤ x.dst) && decide (x.dst ≤ 4)) = z := ⟨_, rfl⟩
  obtain ⟨g, hg⟩ : ∃ z, groupsB x = z := ⟨_, rfl⟩
  obtain ⟨tb, htb⟩ : ∃ z, turnedB x = z := ⟨_, rfl⟩
  obtain ⟨ub, hub⟩ : ∃ z, underW x = z := ⟨_, rfl⟩
  have hgd : g = (g1 && (g2 && decide (x.src ≠ x.dst))) := by rw [← hg, ← hg1, ← hg2]; rfl
  have hud : ub = if tb = true then decide (wrap64 (x.epoch + 1) ≤ x.under) && decide (x.under ≤ 1073741824) else decide (x.under = 0) := by rw [← hub, ← htb]; rfl
  have cN : ∀ w1, Nw W w1 → Calls Tryz.prog 90 #[.int .i64 x.num, .int .i64 1, .int .i64 1073741824] w1 fun e w' => e = .returned (.bool n1) ∧ Nw W w' := fun w1 f => (within_any w1 _ _ _).mono fun e w' h => by rw [hn1] at h; exact ⟨h.1, h.2 ▸ f⟩
  have cA : ∀ w1, Nw W w1 → Calls Tryz.prog 90 #[.int .i64 x.src, .int .i64 1, .int .i64 4] w1 fun e w' => e = .returned (.bool g1) ∧ Nw W w' := fun w1 f => (within_any w1 _ _ _).mono fun e w' h => by rw [hg1] at h; exact ⟨h.1, h.2 ▸ f⟩
  have cB : ∀ w1, Nw W w1 → Calls Tryz.prog 90 #[.int .i64 x.dst, .int .i64 1, .int .i64 4] w1 fun e w' => e = .returned (.bool g2) ∧ Nw W w' := fun w1 f => (within_any w1 _ _ _).mono fun e w' h => by rw [hg2] at h; exact ⟨h.1, h.2 ▸ f⟩
  have cE : ∀ w1, Nw W w1 → Calls Tryz.prog 90 #[.int .i64 x.epoch, .int .i64 1, .int .i64 1073741824] w1 fun e w' => e = .returned (.bool ep) ∧ Nw W w' := fun w1 f => (within_any w1 _ _ _).mono fun e w' h => by rw [hep] at h; exact ⟨h.1, h.2 ▸ f⟩
  have cU : ∀ w1, Nw W w1 → Calls Tryz.prog 90 #[.int .i64 x.under, .int .i64 (wrap64 (x.epoch + 1)), .int .i64 1073741824] w1 fun e w' => e = .returned (.bool (decide (wrap64 (x.epoch + 1) ≤ x.under) && decide (x.under ≤ 1073741824))) ∧ Nw W w' := fun w1 f => (within_any w1 _ _ _).mono fun e w' h => ⟨h.1, h.2 ▸ f⟩
  have cS : ∀ w1, Nw W w1 → Calls Tryz.prog 91 #[.agg #[StrV x.lo, StrV x.hi]] w1 fun e w' => e = .returned (.bool sp) ∧ Nw W w' := fun w1 f => (spanRight_any w1 _ _ hl hh).mono fun e w' h => by rw [hsp] at h; exact ⟨h.1, f.tr h.2⟩
  have cT : ∀ w1, Nw W w1 → Calls Tryz.prog 89 #[.agg (schA x)] w1 fun e w' => e = .returned (.bool tb) ∧ Nw W w' := fun w1 f => (wturned_any w1 x).mono fun e w' h => by rw [htb] at h; exact ⟨h.1, f.tr h.2⟩
  have HST := Lib.hid hst1
  rw [hn1, hsp, hep, hst1, hg, hub]
  have hz0 : ∀ w1, (zeroValue 91).run Tryz.prog w1 = .ok (.slice none 0 0) w1 := fun w1 => by kernel_rfl
  clear hn1 hsp hep hst1 hg1 hg2 hg htb hub b0
  go_enter Tryz.func51, Tryz.ntmps51
  go_upto_region 1 with (fail)
  rw [← HW.out]
  go_region_held3 (fun w' => w'.cell? ⟨w.heap.size, 7, none⟩ = some (U8V x.stage)) (first | (exact hS7 _ hQ0) | (exact s1) | fail)
    ((first | (go_at_call 88; refine hww.mono ?_; rintro e w1 ⟨b, f, rfl, hM, hf, q1⟩; have Q := hQ0.tr q1; have s1 := hS7 w1 Q; have hlk := hM.look stage_keys Tryz.underlying156 (hz0 w1) x.stage (u8Wf hst); rw [hf, HST.out] at hlk; generalize Option.getD (f x.stage) (.slice none 0 0) = v3 at hlk; clear hf hM)))
  obtain ⟨k0, k1, k2, k3, k4, k5, k6, k7⟩ := hS _ Q
  go_upto_region 2 with (fail)
  have hu0 : ∀ tb', tb' = false → tb = tb' → ub = decide (x.under = 0) := fun _ h1 h2 => by rw [hud, h2, h1]; rfl
  have hu1 : ∀ tb', tb' = true → tb = tb' → ub = (decide (wrap64 (x.epoch + 1) ≤ x.under) && decide (x.under ≤ 1073741824)) := fun _ h1 h2 => by rw [hud, h2, h1]; rfl
  clear hud
  have HU0 := Lib.hid hu0
  have HU1 := Lib.hid hu1
  have HGD := Lib.hid hgd
  clear hu0 hu1 hgd
  go_upto_if 20 with (go_at_call 89; refine (cT _ (by assumption)).mono ?_; rintro e w3 ⟨rfl, Q⟩; obtain ⟨k0, k1, k2, k3, k4, k5, k6, k7⟩ := hS _ Q)
  go_cut [5] (fun v wx => v = .bool ub ∧ Nw W wx)
  case first =>
    cases tb with
    | false =>
      have e := HU0.out _ rfl rfl
      go_wp2_with fail
      go_meet
      exact ⟨congrArg Value.bool (by rw [e]; by_cases e0 : x.under = 0 <;> simp [e0]), by assumption⟩
    | true =>
      have e := HU1.out _ rfl rfl
      go_wp2_with fail
      refine (cU _ (by assumption)).mono ?_
      rintro e w3 ⟨rfl, Q⟩
      obtain ⟨k0, k1, k2, k3, k4, k5, k6, k7⟩ := hS _ Q
      go_wp2_with fail
      go_meet
      exact ⟨by rw [e], by assumption⟩
  case rest =>
    obtain ⟨rfl, Q⟩ := hcut
    obtain ⟨k0, k1, k2, k3, k4, k5, k6, k7⟩ := hS _ Q
    go_upto_region 5 with (fail)
    go_cut [6] (fun v wx => v = .bool g ∧ Nw W wx)
    case first =>
      go_wp2_with fail
      refine (cA _ (by assumption)).mono ?_
      rintro e w3 ⟨rfl, Q⟩
      obtain ⟨k0, k1, k2, k3, k4, k5, k6, k7⟩ := hS _ Q
      cases g1 with
      | false =>
        go_wp2_with fail
        go_meet
        exact ⟨by rw [HGD.out]; rfl, by assumption⟩
      | true =>
        go_wp2_with fail
        refine (cB _ (by assumption)).mono ?_
        rintro e w3 ⟨rfl, Q⟩
        obtain ⟨k0, k1, k2, k3, k4, k5, k6, k7⟩ := hS _ Q
        cases g2 with
        | false =>
          go_wp2_with fail
          go_meet
          exact ⟨by rw [HGD.out]; rfl, by assumption⟩
        | true =>
          go_wp2_with fail
          go_meet
          exact ⟨congrArg Value.bool (by rw [HGD.out]; by_cases e0 : x.src = x.dst <;> simp [e0]), by assumption⟩
    case rest =>
      obtain ⟨rfl, Q⟩ := hcut
      obtain ⟨k0, k1, k2, k3, k4, k5, k6, k7⟩ := hS _ Q
      go_wp2_with fail
      refine (cN _ (by assumption)).mono ?_
      rintro e w3 ⟨rfl, Q⟩
      obtain ⟨k0, k1, k2, k3, k4, k5, k6, k7⟩ := hS _ Q
      cases n1 with
      | false =>
        go_wp2_with fail
        go_ret
        exact ⟨by simp, q0.tr (by assumption)⟩
      | true =>
        go_wp2_with fail
        refine (cS _ (by assumption)).mono ?_
        rintro e w3 ⟨rfl, Q⟩
        obtain ⟨k0, k1, k2, k3, k4, k5, k6, k7⟩ := hS _ Q
        cases sp with
        | false =>
          go_wp2_with fail
          go_ret
          exact ⟨by simp, q0.tr (by assumption)⟩
        | true =>
          cases g with
          | false =>
            go_wp2_with fail
            go_ret
            exact ⟨by simp, q0.tr (by assumption)⟩
          | true =>
            go_wp2_with fail
            refine (cE _ (by assumption)).mono ?_
            rintro e w3 ⟨rfl, Q⟩
            obtain ⟨k0, k1, k2, k3, k4, k5, k6, k7⟩ := hS _ Q
            cases ep with
            | false =>
              go_wp2_with fail
              go_ret
              exact ⟨by simp, q0.tr (by assumption)⟩
            | true =>
              cases st with
              | false =>
                go_wp2_with fail
                go_ret
                exact ⟨by simp, q0.tr (by assumption)⟩
              | true =>
                go_wp2_with fail
                go_ret
                exact ⟨by simp, q0.tr (by assumption)⟩
end Go.Proofs.YtfglibkffcogcaaGreat
