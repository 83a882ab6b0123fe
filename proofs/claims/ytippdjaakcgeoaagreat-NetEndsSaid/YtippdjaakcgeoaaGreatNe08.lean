/- Lemmas of the walks: RgB, RgC. (Laid together by shake.py.) -/
import Derived.Test.YtippdjaakcgeoaaGreatNe07
set_option linter.unusedVariables false
set_option linter.unusedSimpArgs false
namespace Go.Proofs.YtippdjaakcgeoaaGreat
open Go Go.RowKit
set_option linter.unusedVariables false
set_option linter.unusedSimpArgs false
set_option maxRecDepth 100000 in
theorem jwithin_any (w : World) (b c : Int) : Calls Tryz.prog 156 #[I64 b, I64 c] w fun e w' => e = .returned (.bool (decide (0 ≤ b ∧ b ≤ c))) ∧ w = w' := by
  by_cases h1 : 0 ≤ b
  · by_cases h2 : b ≤ c
    · have e : decide (0 ≤ b ∧ b ≤ c) = true := decide_eq_true ⟨h1, h2⟩
      rw [e]
      go_enter Tryz.func156, Tryz.ntmps156
      go_wp2_with fail
      go_ret
      exact ⟨rfl, rfl⟩
    · have e : decide (0 ≤ b ∧ b ≤ c) = false := decide_eq_false fun h => h2 h.2
      rw [e]
      go_enter Tryz.func156, Tryz.ntmps156
      go_wp2_with fail
      go_ret
      exact ⟨by simp, rfl⟩
  · have e : decide (0 ≤ b ∧ b ≤ c) = false := decide_eq_false fun h => h1 h.1
    rw [e]
    go_enter Tryz.func156, Tryz.ntmps156
    go_wp2_with fail
    go_ret
    exact ⟨by simp, rfl⟩
set_option maxRecDepth 100000 in
set_option maxHeartbeats 4000000 in
theorem jent (w : World) (F : Nat → Prop) (x : EntM) (hx : EntIn w F x) (hz : EntSz x) : Calls Tryz.prog 81 #[.agg (entA x)] w fun e w' => e = .returned (.bool (entOk x.x)) ∧ Nw w w' := by
  obtain ⟨W0, hW0⟩ : ∃ W, W = w.alloc (.cells (entA x) 87) := ⟨_, rfl⟩
  have p0 : Nw w W0 := by rw [hW0]; exact (Fr.refl (fun _ => False) _).alloc _
  have b0 : Blk W0 w.heap.size 87 (entA x) := by rw [hW0]; exact Blk.new _ _ _
  have k0 : W0.cell? ⟨w.heap.size, 0, none⟩ = some (I64 x.term) := by simpa using b0.cell 0
  have k1 : W0.cell? ⟨w.heap.size, 1, none⟩ = some (U8V x.kind) := by simpa using b0.cell 1
  have k2 : W0.cell? ⟨w.heap.size, 2, none⟩ = some (.slice x.cmd.a x.cmd.l.length x.cmd.c) := by simpa using b0.cell 2
  have k3 : W0.cell? ⟨w.heap.size, 3, none⟩ = some (.slice x.cfg.v.a x.cfg.v.l.length x.cfg.v.c) := by simpa using b0.cell 3
  have k4 : W0.cell? ⟨w.heap.size, 4, none⟩ = some (.slice x.cfg.o.a x.cfg.o.l.length x.cfg.o.c) := by simpa using b0.cell 4
  have k5 : W0.cell? ⟨w.heap.size, 5, none⟩ = some (.slice x.cfg.l.a x.cfg.l.l.length x.cfg.l.c) := by simpa using b0.cell 5
  have k6 : W0.cell? ⟨w.heap.size, 6, none⟩ = some (.slice x.cfg.w.a x.cfg.w.l.length x.cfg.w.c) := by simpa using b0.cell 6
  have he := fun w' => jempty w' F x.cfg hz.cfg
  have hc : ∀ w', Nw W0 w' → _ := fun w' f => jcfg w' F x.cfg (hx.cfg.nw (p0.tr f)) hz.cfg
  have hok : entOk x.x = (topOk x.term && (if x.kind = 1 then decide (x.cmd.l.length = 0) && cfgNone x.cfg.x else if x.kind = 2 then decide (x.cmd.l.length ≤ 131072) && cfgNone x.cfg.x else decide (x.kind = 3) && (decide (x.cmd.l.length = 0) && cfgOk x.cfg.x))) := rfl
  obtain ⟨nn, hnn⟩ : ∃ d, cfgNone x.cfg.x = d := ⟨_, rfl⟩
  obtain ⟨cc, hcc⟩ : ∃ d, cfgOk x.cfg.x = d := ⟨_, rfl⟩
  simp only [hnn] at he
  simp only [hcc] at hc
  rw [hnn, hcc] at hok
  obtain ⟨r, hr⟩ : ∃ r, entOk x.x = r := ⟨_, rfl⟩
  rw [hr] at hok ⊢
  have hcl := hz.cmd
  have HW0 := Lib.hid hW0
  have HO := Lib.hid hok
  have hkd := hx.kind
  clear hW0 hr hnn hcc hx hz hok b0
  generalize x.cmd.l.length = n at *
  by_cases ht : 0 ≤ x.term ∧ x.term ≤ 1073741824
  case neg =>
    have htd : topOk x.term = false := decide_eq_false ht
    have HT := Lib.hid htd
    clear htd
    have hw := fun w => jwithin_any w x.term 1073741824
    simp only [decide_eq_false ht] at hw
    have HWi := Lib.hid ht
    clear ht
    go_enter Tryz.func81, Tryz.ntmps81
    go_upto_region 1 with (fail)
    rw [← HW0.out]
    go_wp2_with (first | (go_at_call 156; refine (hw _).mono ?_; rintro e v ⟨rfl, rfl⟩) | (go_at_call 157; refine (he _).mono ?_; rintro e w2 ⟨rfl, q2⟩) | (go_at_call 78; refine (hc _ (Fr.refl _ _)).mono ?_; rintro e w2 ⟨rfl, q2⟩))
    go_ret
    exact ⟨ret_eq (congrArg Value.bool (by rw [HO.out]; rw [HT.out]; rfl)), p0⟩
  have htd : topOk x.term = true := decide_eq_true ht
  have HT := Lib.hid htd
  clear htd
  obtain ⟨ht1, ht2⟩ := ht
  have hw := fun w => jwithin_any w x.term 1073741824
  simp only [decide_eq_true (show 0 ≤ x.term ∧ x.term ≤ 1073741824 from ⟨ht1, ht2⟩)] at hw
  by_cases h1 : x.kind = 1
  · have g1 : (x.kind == 1) = true := by simp [h1]
    have H1 := Lib.hid h1
    clear h1
    by_cases h4 : n = 0
    · have g4 : ((n : Int) == 0) = true := by simp [h4]
      have H4 := Lib.hid h4
      clear h4
      go_enter Tryz.func81, Tryz.ntmps81
      go_upto_region 1 with (fail)
      rw [← HW0.out]
      go_wp2_with (first | (go_at_call 156; refine (hw _).mono ?_; rintro e v ⟨rfl, rfl⟩) | (go_at_call 157; refine (he _).mono ?_; rintro e w2 ⟨rfl, q2⟩) | (go_at_call 78; refine (hc _ (Fr.refl _ _)).mono ?_; rintro e w2 ⟨rfl, q2⟩))
      go_ret
      exact ⟨ret_eq (congrArg Value.bool (by rw [HO.out]; rw [HT.out, if_pos H1.out, decide_eq_true H4.out]; rfl)), p0.tr q2⟩
    · have g4 : ((n : Int) == 0) = false := by simp [h4]
      have H4 := Lib.hid h4
      clear h4
      go_enter Tryz.func81, Tryz.ntmps81
      go_upto_region 1 with (fail)
      rw [← HW0.out]
      go_wp2_with (first | (go_at_call 156; refine (hw _).mono ?_; rintro e v ⟨rfl, rfl⟩) | (go_at_call 157; refine (he _).mono ?_; rintro e w2 ⟨rfl, q2⟩) | (go_at_call 78; refine (hc _ (Fr.refl _ _)).mono ?_; rintro e w2 ⟨rfl, q2⟩))
      go_ret
      exact ⟨ret_eq (congrArg Value.bool (by rw [HO.out]; rw [HT.out, if_pos H1.out, decide_eq_false H4.out]; rfl)), p0⟩
  · have g1 : (x.kind == 1) = false := by simp [h1]
    have H1 := Lib.hid h1
    clear h1
    by_cases h2 : x.kind = 2
    · have g2 : (x.kind == 2) = true := by simp [h2]
      have H2 := Lib.hid h2
      clear h2
      by_cases h4 : n ≤ 131072
      · have g4 : (n : Int) ≤ 131072 := by omega
        have H4 := Lib.hid h4
        clear h4
        go_enter Tryz.func81, Tryz.ntmps81
        go_upto_region 1 with (fail)
        rw [← HW0.out]
        go_wp2_with (first | (go_at_call 156; refine (hw _).mono ?_; rintro e v ⟨rfl, rfl⟩) | (go_at_call 157; refine (he _).mono ?_; rintro e w2 ⟨rfl, q2⟩) | (go_at_call 78; refine (hc _ (Fr.refl _ _)).mono ?_; rintro e w2 ⟨rfl, q2⟩))
        go_ret
        exact ⟨ret_eq (congrArg Value.bool (by rw [HO.out]; rw [HT.out, if_neg H1.out, if_pos H2.out, decide_eq_true H4.out]; rfl)), p0.tr q2⟩
      · have g4 : ¬ (n : Int) ≤ 131072 := by omega
        have H4 := Lib.hid h4
        clear h4
        go_enter Tryz.func81, Tryz.ntmps81
        go_upto_region 1 with (fail)
        rw [← HW0.out]
        go_wp2_with (first | (go_at_call 156; refine (hw _).mono ?_; rintro e v ⟨rfl, rfl⟩) | (go_at_call 157; refine (he _).mono ?_; rintro e w2 ⟨rfl, q2⟩) | (go_at_call 78; refine (hc _ (Fr.refl _ _)).mono ?_; rintro e w2 ⟨rfl, q2⟩))
        go_ret
        exact ⟨ret_eq (congrArg Value.bool (by rw [HO.out]; rw [HT.out, if_neg H1.out, if_pos H2.out, decide_eq_false H4.out]; rfl)), p0⟩
    · have g2 : (x.kind == 2) = false := by simp [h2]
      have H2 := Lib.hid h2
      clear h2
      by_cases h3 : x.kind = 3
      · have g3 : (x.kind == 3) = true := by simp [h3]
        have H3 := Lib.hid h3
        clear h3
        by_cases h4 : n = 0
        · have g4 : ((n : Int) == 0) = true := by simp [h4]
          have H4 := Lib.hid h4
          clear h4
          go_enter Tryz.func81, Tryz.ntmps81
          go_upto_region 1 with (fail)
          rw [← HW0.out]
          go_wp2_with (first | (go_at_call 156; refine (hw _).mono ?_; rintro e v ⟨rfl, rfl⟩) | (go_at_call 157; refine (he _).mono ?_; rintro e w2 ⟨rfl, q2⟩) | (go_at_call 78; refine (hc _ (Fr.refl _ _)).mono ?_; rintro e w2 ⟨rfl, q2⟩))
          go_ret
          exact ⟨ret_eq (congrArg Value.bool (by rw [HO.out]; rw [HT.out, if_neg H1.out, if_neg H2.out, decide_eq_true H3.out, decide_eq_true H4.out]; rfl)), p0.tr q2⟩
        · have g4 : ((n : Int) == 0) = false := by simp [h4]
          have H4 := Lib.hid h4
          clear h4
          go_enter Tryz.func81, Tryz.ntmps81
          go_upto_region 1 with (fail)
          rw [← HW0.out]
          go_wp2_with (first | (go_at_call 156; refine (hw _).mono ?_; rintro e v ⟨rfl, rfl⟩) | (go_at_call 157; refine (he _).mono ?_; rintro e w2 ⟨rfl, q2⟩) | (go_at_call 78; refine (hc _ (Fr.refl _ _)).mono ?_; rintro e w2 ⟨rfl, q2⟩))
          go_ret
          exact ⟨ret_eq (congrArg Value.bool (by rw [HO.out]; rw [HT.out, if_neg H1.out, if_neg H2.out, decide_eq_true H3.out, decide_eq_false H4.out]; rfl)), p0⟩
      · have g3 : (x.kind == 3) = false := by simp [h3]
        have H3 := Lib.hid h3
        clear h3
        go_enter Tryz.func81, Tryz.ntmps81
        go_upto_region 1 with (fail)
        rw [← HW0.out]
        go_wp2_with (first | (go_at_call 156; refine (hw _).mono ?_; rintro e v ⟨rfl, rfl⟩) | (go_at_call 157; refine (he _).mono ?_; rintro e w2 ⟨rfl, q2⟩) | (go_at_call 78; refine (hc _ (Fr.refl _ _)).mono ?_; rintro e w2 ⟨rfl, q2⟩))
        go_ret
        exact ⟨ret_eq (congrArg Value.bool (by rw [HO.out]; rw [HT.out, if_neg H1.out, if_neg H2.out, decide_eq_false H3.out]; rfl)), p0⟩
set_option maxRecDepth 100000 in
set_option maxHeartbeats 4000000 in
theorem rent (w : World) (F : Nat → Prop) (x : EntM) (hx : EntIn w F x) (hz : EntSz x) : Calls Tryz.prog 132 #[.agg (entA x)] w fun e w' => e = .returned (.bool (entOk x.x)) ∧ Nw w w' := by
  obtain ⟨W0, hW0⟩ : ∃ W, W = w.alloc (.cells (entA x) 87) := ⟨_, rfl⟩
  have p0 : Nw w W0 := by rw [hW0]; exact (Fr.refl (fun _ => False) _).alloc _
  have b0 : Blk W0 w.heap.size 87 (entA x) := by rw [hW0]; exact Blk.new _ _ _
  have k0 : W0.cell? ⟨w.heap.size, 0, none⟩ = some (I64 x.term) := by simpa using b0.cell 0
  have k1 : W0.cell? ⟨w.heap.size, 1, none⟩ = some (U8V x.kind) := by simpa using b0.cell 1
  have k2 : W0.cell? ⟨w.heap.size, 2, none⟩ = some (.slice x.cmd.a x.cmd.l.length x.cmd.c) := by simpa using b0.cell 2
  have k3 : W0.cell? ⟨w.heap.size, 3, none⟩ = some (.slice x.cfg.v.a x.cfg.v.l.length x.cfg.v.c) := by simpa using b0.cell 3
  have k4 : W0.cell? ⟨w.heap.size, 4, none⟩ = some (.slice x.cfg.o.a x.cfg.o.l.length x.cfg.o.c) := by simpa using b0.cell 4
  have k5 : W0.cell? ⟨w.heap.size, 5, none⟩ = some (.slice x.cfg.l.a x.cfg.l.l.length x.cfg.l.c) := by simpa using b0.cell 5
  have k6 : W0.cell? ⟨w.heap.size, 6, none⟩ = some (.slice x.cfg.w.a x.cfg.w.l.length x.cfg.w.c) := by simpa using b0.cell 6
  have he := fun w' => rnone w' F x.cfg hz.cfg
  have hc : ∀ w', Nw W0 w' → _ := fun w' f => rcfg w' F x.cfg (hx.cfg.nw (p0.tr f)) hz.cfg
  have hok : entOk x.x = (topOk x.term && (if x.kind = 1 then decide (x.cmd.l.length = 0) && cfgNone x.cfg.x else if x.kind = 2 then decide (x.cmd.l.length ≤ 131072) && cfgNone x.cfg.x else decide (x.kind = 3) && (decide (x.cmd.l.length = 0) && cfgOk x.cfg.x))) := rfl
  obtain ⟨nn, hnn⟩ : ∃ d, cfgNone x.cfg.x = d := ⟨_, rfl⟩
  obtain ⟨cc, hcc⟩ : ∃ d, cfgOk x.cfg.x = d := ⟨_, rfl⟩
  simp only [hnn] at he
  simp only [hcc] at hc
  rw [hnn, hcc] at hok
  obtain ⟨r, hr⟩ : ∃ r, entOk x.x = r := ⟨_, rfl⟩
  rw [hr] at hok ⊢
  have hcl := hz.cmd
  have HW0 := Lib.hid hW0
  have HO := Lib.hid hok
  have hkd := hx.kind
  clear hW0 hr hnn hcc hx hz hok b0
  generalize x.cmd.l.length = n at *
  by_cases ht : 0 ≤ x.term ∧ x.term ≤ 1073741824
  case neg =>
    have htd : topOk x.term = false := decide_eq_false ht
    have HT := Lib.hid htd
    clear htd
    by_cases hlo : x.term < 0
    · clear ht
      go_enter Tryz.func132, Tryz.ntmps132
      go_upto_region 1 with (fail)
      rw [← HW0.out]
      go_wp2_with (first | (go_at_call 199; refine (he _).mono ?_; rintro e w2 ⟨rfl, q2⟩) | (go_at_call 198; refine (hc _ (Fr.refl _ _)).mono ?_; rintro e w2 ⟨rfl, q2⟩))
      go_ret
      exact ⟨ret_eq (congrArg Value.bool (by rw [HO.out]; rw [HT.out]; rfl)), p0⟩
    · have hhi : 1073741824 < x.term := by omega
      have hlo2 : 0 ≤ x.term := by omega
      clear ht hlo
      go_enter Tryz.func132, Tryz.ntmps132
      go_upto_region 1 with (fail)
      rw [← HW0.out]
      go_wp2_with (first | (go_at_call 199; refine (he _).mono ?_; rintro e w2 ⟨rfl, q2⟩) | (go_at_call 198; refine (hc _ (Fr.refl _ _)).mono ?_; rintro e w2 ⟨rfl, q2⟩))
      go_ret
      exact ⟨ret_eq (congrArg Value.bool (by rw [HO.out]; rw [HT.out]; rfl)), p0⟩
  have htd : topOk x.term = true := decide_eq_true ht
  have HT := Lib.hid htd
  clear htd
  obtain ⟨ht1, ht2⟩ := ht
  by_cases h1 : x.kind = 1
  · have g1 : (x.kind == 1) = true := by simp [h1]
    have H1 := Lib.hid h1
    clear h1
    by_cases h4 : n = 0
    · have g4 : ((n : Int) == 0) = true := by simp [h4]
      have H4 := Lib.hid h4
      clear h4
      go_enter Tryz.func132, Tryz.ntmps132
      go_upto_region 1 with (fail)
      rw [← HW0.out]
      go_wp2_with (first | (go_at_call 199; refine (he _).mono ?_; rintro e w2 ⟨rfl, q2⟩) | (go_at_call 198; refine (hc _ (Fr.refl _ _)).mono ?_; rintro e w2 ⟨rfl, q2⟩))
      go_ret
      exact ⟨ret_eq (congrArg Value.bool (by rw [HO.out]; rw [HT.out, if_pos H1.out, decide_eq_true H4.out]; rfl)), p0.tr q2⟩
    · have g4 : ((n : Int) == 0) = false := by simp [h4]
      have H4 := Lib.hid h4
      clear h4
      go_enter Tryz.func132, Tryz.ntmps132
      go_upto_region 1 with (fail)
      rw [← HW0.out]
      go_wp2_with (first | (go_at_call 199; refine (he _).mono ?_; rintro e w2 ⟨rfl, q2⟩) | (go_at_call 198; refine (hc _ (Fr.refl _ _)).mono ?_; rintro e w2 ⟨rfl, q2⟩))
      go_ret
      exact ⟨ret_eq (congrArg Value.bool (by rw [HO.out]; rw [HT.out, if_pos H1.out, decide_eq_false H4.out]; rfl)), p0⟩
  · have g1 : (x.kind == 1) = false := by simp [h1]
    have H1 := Lib.hid h1
    clear h1
    by_cases h2 : x.kind = 2
    · have g2 : (x.kind == 2) = true := by simp [h2]
      have H2 := Lib.hid h2
      clear h2
      by_cases h4 : n ≤ 131072
      · have g4 : (n : Int) ≤ 131072 := by omega
        have H4 := Lib.hid h4
        clear h4
        go_enter Tryz.func132, Tryz.ntmps132
        go_upto_region 1 with (fail)
        rw [← HW0.out]
        go_wp2_with (first | (go_at_call 199; refine (he _).mono ?_; rintro e w2 ⟨rfl, q2⟩) | (go_at_call 198; refine (hc _ (Fr.refl _ _)).mono ?_; rintro e w2 ⟨rfl, q2⟩))
        go_ret
        exact ⟨ret_eq (congrArg Value.bool (by rw [HO.out]; rw [HT.out, if_neg H1.out, if_pos H2.out, decide_eq_true H4.out]; rfl)), p0.tr q2⟩
      · have g4 : ¬ (n : Int) ≤ 131072 := by omega
        have H4 := Lib.hid h4
        clear h4
        go_enter Tryz.func132, Tryz.ntmps132
        go_upto_region 1 with (fail)
        rw [← HW0.out]
        go_wp2_with (first | (go_at_call 199; refine (he _).mono ?_; rintro e w2 ⟨rfl, q2⟩) | (go_at_call 198; refine (hc _ (Fr.refl _ _)).mono ?_; rintro e w2 ⟨rfl, q2⟩))
        go_ret
        exact ⟨ret_eq (congrArg Value.bool (by rw [HO.out]; rw [HT.out, if_neg H1.out, if_pos H2.out, decide_eq_false H4.out]; rfl)), p0⟩
    · have g2 : (x.kind == 2) = false := by simp [h2]
      have H2 := Lib.hid h2
      clear h2
      by_cases h3 : x.kind = 3
      · have g3 : (x.kind == 3) = true := by simp [h3]
        have H3 := Lib.hid h3
        clear h3
        by_cases h4 : n = 0
        · have g4 : ((n : Int) == 0) = true := by simp [h4]
          have H4 := Lib.hid h4
          clear h4
          go_enter Tryz.func132, Tryz.ntmps132
          go_upto_region 1 with (fail)
          rw [← HW0.out]
          go_wp2_with (first | (go_at_call 199; refine (he _).mono ?_; rintro e w2 ⟨rfl, q2⟩) | (go_at_call 198; refine (hc _ (Fr.refl _ _)).mono ?_; rintro e w2 ⟨rfl, q2⟩))
          go_ret
          exact ⟨ret_eq (congrArg Value.bool (by rw [HO.out]; rw [HT.out, if_neg H1.out, if_neg H2.out, decide_eq_true H3.out, decide_eq_true H4.out]; rfl)), p0.tr q2⟩
        · have g4 : ((n : Int) == 0) = false := by simp [h4]
          have H4 := Lib.hid h4
          clear h4
          go_enter Tryz.func132, Tryz.ntmps132
          go_upto_region 1 with (fail)
          rw [← HW0.out]
          go_wp2_with (first | (go_at_call 199; refine (he _).mono ?_; rintro e w2 ⟨rfl, q2⟩) | (go_at_call 198; refine (hc _ (Fr.refl _ _)).mono ?_; rintro e w2 ⟨rfl, q2⟩))
          go_ret
          exact ⟨ret_eq (congrArg Value.bool (by rw [HO.out]; rw [HT.out, if_neg H1.out, if_neg H2.out, decide_eq_true H3.out, decide_eq_false H4.out]; rfl)), p0⟩
      · have g3 : (x.kind == 3) = false := by simp [h3]
        have H3 := Lib.hid h3
        clear h3
        go_enter Tryz.func132, Tryz.ntmps132
        go_upto_region 1 with (fail)
        rw [← HW0.out]
        go_wp2_with (first | (go_at_call 199; refine (he _).mono ?_; rintro e w2 ⟨rfl, q2⟩) | (go_at_call 198; refine (hc _ (Fr.refl _ _)).mono ?_; rintro e w2 ⟨rfl, q2⟩))
        go_ret
        exact ⟨ret_eq (congrArg Value.bool (by rw [HO.out]; rw [HT.out, if_neg H1.out, if_neg H2.out, decide_eq_false H3.out]; rfl)), p0⟩
/-! Numbers within bounds. -/
def wOk (lo hi n : Int) : Bool := decide (lo ≤ n ∧ n ≤ hi)
def entOkM (e : EntM) : Bool := entOk e.x
def withinB (lo hi : Int) (l : List Int) : Bool := l.all (wOk lo hi)
set_option maxRecDepth 100000 in
theorem within_c1 (w : World) (x lo hi : Int) (L M : Nat) (cl : w.cell? ⟨L, 0, none⟩ = some (I64 lo)) (cm : w.cell? ⟨M, 0, none⟩ = some (I64 hi)) :
    Calls Tryz.prog 153 #[I64 x, .pointer (some ⟨L, 0, none⟩), .pointer (some ⟨M, 0, none⟩)] w fun e w' => e = .returned (.bool (!wOk lo hi x)) ∧ w = w' := by
  unfold wOk
  by_cases h1 : x < lo
  · have e : (!decide (lo ≤ x ∧ x ≤ hi)) = true := by rw [decide_eq_false (by omega)]; rfl
    rw [e]
    go_enter Tryz.func153, Tryz.ntmps153
    go_wp2_with fail
    go_ret
    exact ⟨by simp, rfl⟩
  · by_cases h2 : hi < x
    · have e : (!decide (lo ≤ x ∧ x ≤ hi)) = true := by rw [decide_eq_false (by omega)]; rfl
      rw [e]
      go_enter Tryz.func153, Tryz.ntmps153
      go_wp2_with fail
      go_ret
      exact ⟨by simp, rfl⟩
    · have e : (!decide (lo ≤ x ∧ x ≤ hi)) = false := by rw [decide_eq_true (by omega)]; rfl
      rw [e]
      go_enter Tryz.func153, Tryz.ntmps153
      go_wp2_with fail
      go_ret
      exact ⟨by simp, rfl⟩
def winR (w : World) (ok : Int → Bool) (l : List Int) (i : Value) (wx : World) : Prop := ∃ k : Nat, k ≤ l.length ∧ i = .int .i64 k ∧ (∀ j (h : j < l.length), j < k → ok l[j] = true) ∧ Nw w wx
set_option maxRecDepth 100000 in
theorem win_index (w : World) (F : Nat → Prop) (A : Option Addr) (c : Nat) (l : List Int) (hs : Sl w F A (intsC l)) (hl : l.length ≤ 1000000000) (lo hi : Int) (L M : Nat) (cl : w.cell? ⟨L, 0, none⟩ = some (I64 lo)) (cm : w.cell? ⟨M, 0, none⟩ = some (I64 hi)) :
    Calls Tryz.prog 208 #[.slice A l.length c, .func (.func 153) #[] #[.pointer (some ⟨L, 0, none⟩), .pointer (some ⟨M, 0, none⟩)]] w
      fun e w' => ∃ i : Int, e = .returned (.int .i64 i) ∧ (0 ≤ i ↔ l.all (wOk lo hi) = false) ∧ Nw w w' := by
  go_enter Tryz.func208, Tryz.ntmps208
  go_wp2_with fail
  go_loopw [8] (fun i wx => winR w (wOk lo hi) l i wx) (fun i _ => l.length - (intOf i).toNat)
  case atStart => exact ⟨0, Nat.zero_le _, rfl, fun _ _ h => by omega, Fr.refl _ _⟩
  case round =>
    obtain ⟨k, hk, rfl, hok, hq⟩ := hrel
    have HK := Lib.hid hok
    clear hok
    by_cases hlt : k < l.length
    · obtain ⟨b, o, rfl, _, hc⟩ := (hs.fr hq (fun _ _ h => h)).get hlt
      have cl2 := (hq.cell (World.block_lt_of_cell? _ _ cl) (fun h => h)).trans cl
      have cm2 := (hq.cell (World.block_lt_of_cell? _ _ cm) (fun h => h)).trans cm
      have hcon := within_c1 wr l[k] lo hi L M cl2 cm2
      obtain ⟨p, hp⟩ : ∃ p, (wOk lo hi) l[k] = p := ⟨_, rfl⟩
      have HP := Lib.hid hp
      simp only [hp] at hcon
      clear hp
      cases p
      · go_wp2_with (first | (go_at_call 153; refine hcon.mono ?_; rintro e w1 ⟨rfl, rfl⟩; have q1 := Fr.refl (fun _ => False) wr))
        go_ret
        refine ⟨k, rfl, ⟨fun _ => ?_, fun _ => by omega⟩, hq.tr q1⟩
        refine Bool.eq_false_iff.2 fun h => ?_
        have := List.all_eq_true.1 h _ (List.getElem_mem hlt)
        rw [HP.out] at this
        cases this
      · go_wp2_with (first | (go_at_call 153; refine hcon.mono ?_; rintro e w1 ⟨rfl, rfl⟩; have q1 := Fr.refl (fun _ => False) wr))
        go_roundw
        case rel =>
          refine ⟨k + 1, by omega, rfl, fun j hj hjk => ?_, hq.tr q1⟩
          by_cases hjk2 : j < k
          · exact HK.out j hj hjk2
          · obtain rfl : j = k := by omega
            exact HP.out
        case measure => simp [intOf]; omega
    · go_wp2_with fail
      go_ret
      have e : l.all (wOk lo hi) = true := List.all_eq_true.2 fun x hx => by
        obtain ⟨j, hj, rfl⟩ := List.mem_iff_getElem.1 hx
        exact HK.out j hj (by omega)
      exact ⟨-1, rfl, ⟨fun h => by omega, fun h => by rw [e] at h; cases h⟩, hq⟩
set_option maxRecDepth 100000 in
theorem win_contains (w : World) (F : Nat → Prop) (A : Option Addr) (c : Nat) (l : List Int) (hs : Sl w F A (intsC l)) (hl : l.length ≤ 1000000000) (lo hi : Int) (L M : Nat) (cl : w.cell? ⟨L, 0, none⟩ = some (I64 lo)) (cm : w.cell? ⟨M, 0, none⟩ = some (I64 hi)) :
    Calls Tryz.prog 152 #[.slice A l.length c, .func (.func 153) #[] #[.pointer (some ⟨L, 0, none⟩), .pointer (some ⟨M, 0, none⟩)]] w fun e w' => e = .returned (.bool (!l.all (wOk lo hi))) ∧ Nw w w' := by
  have hI := win_index w F A c l hs hl lo hi L M cl cm
  have HI := Lib.hid hI
  clear hI
  go_enter Tryz.func152, Tryz.ntmps152
  go_wp2_with fail
  refine HI.out.mono ?_
  rintro e w1 ⟨i, rfl, hii, q1⟩
  have hd : decide (0 ≤ i) = !l.all (wOk lo hi) := by
    by_cases h0 : 0 ≤ i
    · rw [decide_eq_true h0, hii.1 h0]; rfl
    · have hn : l.all (wOk lo hi) = true := by
        cases h : l.all (wOk lo hi) with
        | true => rfl
        | false => exact (h0 (hii.2 h)).elim
      rw [decide_eq_false h0, hn]; rfl
  have HD := Lib.hid hd
  clear hd hii
  go_wp2_with fail
  go_ret
  exact ⟨congrArg (fun b => Ending.returned (.bool b)) HD.out, q1⟩
set_option maxRecDepth 100000 in
theorem within_any (w : World) (F : Nat → Prop) (A : Option Addr) (c : Nat) (l : List Int) (lo hi : Int) (hs : Sl w F A (intsC l)) (hl : l.length ≤ 1000000000) :
    Calls Tryz.prog 77 #[I64 lo, I64 hi, .slice A l.length c] w fun e w' => e = .returned (.bool (withinB lo hi l)) ∧ Nw w w' := by
  obtain ⟨L, hL⟩ : ∃ L, L = w.heap.size := ⟨_, rfl⟩
  obtain ⟨M, hM⟩ : ∃ M, M = w.heap.size + 1 := ⟨_, rfl⟩
  obtain ⟨W0, hW0⟩ : ∃ W, W = (w.alloc (.cells #[I64 lo] 3)).alloc (.cells #[I64 hi] 3) := ⟨_, rfl⟩
  have q0 : Nw w W0 := by rw [hW0]; exact ((Fr.refl (fun _ => False) _).alloc _).alloc _
  have bl : Blk W0 L 3 #[I64 lo] := by rw [hW0, hL]; exact (Blk.new w 3 #[I64 lo]).alloc _
  have bm : Blk W0 M 3 #[I64 hi] := by rw [hW0, hM]; simpa using Blk.new (w.alloc (.cells #[I64 lo] 3)) 3 #[I64 hi]
  have cl : W0.cell? ⟨L, 0, none⟩ = some (I64 lo) := by simpa using bl.cell 0
  have cm : W0.cell? ⟨M, 0, none⟩ = some (I64 hi) := by simpa using bm.cell 0
  have hcon := win_contains W0 F A c l (hs.fr q0 (fun _ _ h => h)) hl lo hi L M cl cm
  have HL := Lib.hid hL
  have HM := Lib.hid hM
  have HW0 := Lib.hid hW0
  have HC := Lib.hid hcon
  clear hL hM hW0 hcon cl cm bl bm
  go_enter Tryz.func77, Tryz.ntmps77
  go_upto_region 1 with (fail)
  rw [← HM.out, ← HL.out, ← HW0.out]
  go_wp2_with fail
  refine HC.out.mono ?_
  rintro e w1 ⟨rfl, q1⟩
  go_wp2_with fail
  go_ret
  exact ⟨ret_eq (congrArg Value.bool (by unfold withinB; simp)), q0.tr q1⟩
set_option maxRecDepth 100000 in
theorem right_c1 (w : World) (F : Nat → Prop) (x : EntM) (hx : EntIn w F x) (hz : EntSz x) :
    Calls Tryz.prog 80 #[.agg (entA x)] w fun e w' => e = .returned (.bool (!entOkM x)) ∧ Nw w w' := by
  unfold entOkM
  obtain ⟨W0, hW0⟩ : ∃ W, W = w.alloc (.cells (entA x) 87) := ⟨_, rfl⟩
  have p0 : Nw w W0 := by rw [hW0]; exact (Fr.refl (fun _ => False) _).alloc _
  have b0 : Blk W0 w.heap.size 87 (entA x) := by rw [hW0]; exact Blk.new _ _ _
  have hcon := jent W0 F x (hx.nw p0) hz
  generalize entOk x.x = r at hcon ⊢
  have HW0 := Lib.hid hW0
  have HC := Lib.hid hcon
  clear hW0 hcon
  go_enter Tryz.func80, Tryz.ntmps80
  go_upto_region 1 with (fail)
  rw [← HW0.out]
  go_wp2_with (refine wpList_load_row rfl 87 _ rfl w.heap.size rfl 87 _ (0, 0) _ b0 Tryz.underlying87 rfl (by kernel_rfl) ?_)
  refine HC.out.mono ?_
  rintro e w1 ⟨rfl, q1⟩
  go_wp2_with fail
  go_ret
  exact ⟨rfl, p0.tr q1⟩
def entsR (w : World) (ok : EntM → Bool) (l : List EntM) (i : Value) (wx : World) : Prop := ∃ k : Nat, k ≤ l.length ∧ i = .int .i64 k ∧ (∀ j (h : j < l.length), j < k → ok l[j] = true) ∧ Nw w wx
set_option maxRecDepth 100000 in
theorem ents_index (w : World) (F : Nat → Prop) (A : Option Addr) (c : Nat) (l : List EntM) (hs : Sl w F A (entsC l)) (hl : l.length ≤ 1000000000) (he : ∀ e ∈ l, EntIn w F e) (hz : ∀ e ∈ l, EntSz e) :
    Calls Tryz.prog 155 #[.slice A l.length c, .func (.func 80) #[] #[]] w
      fun e w' => ∃ i : Int, e = .returned (.int .i64 i) ∧ (0 ≤ i ↔ l.all (entOkM) = false) ∧ Nw w w' := by
  have HE := Lib.hid he
  have HZ := Lib.hid hz
  clear he hz
  go_enter Tryz.func155, Tryz.ntmps155
  go_wp2_with fail
  go_loopw [8] (fun i wx => entsR w (entOkM) l i wx) (fun i _ => l.length - (intOf i).toNat)
  case atStart => exact ⟨0, Nat.zero_le _, rfl, fun _ _ h => by omega, Fr.refl _ _⟩
  case round =>
    obtain ⟨k, hk, rfl, hok, hq⟩ := hrel
    have HK := Lib.hid hok
    clear hok
    by_cases hlt : k < l.length
    · obtain ⟨b, o, rfl, _, _, hc⟩ := (hs.fr hq (fun _ _ h => h)).ent hlt
      have hcon := right_c1 wr F l[k] ((HE.out _ (List.getElem_mem hlt)).nw hq) (HZ.out _ (List.getElem_mem hlt))
      obtain ⟨p, hp⟩ : ∃ p, (entOkM) l[k] = p := ⟨_, rfl⟩
      have HP := Lib.hid hp
      simp only [hp] at hcon
      clear hp
      cases p
      · go_wp2_with (first | (refine wl_load_cells rfl 87 _ rfl b (o + k * 7) rfl _ _ hc Tryz.underlying87 rfl (by kernel_rfl) ?_) | (go_at_call 80; refine hcon.mono ?_; rintro e w1 ⟨rfl, q1⟩))
        go_ret
        refine ⟨k, rfl, ⟨fun _ => ?_, fun _ => by omega⟩, hq.tr q1⟩
        refine Bool.eq_false_iff.2 fun h => ?_
        have := List.all_eq_true.1 h _ (List.getElem_mem hlt)
        rw [HP.out] at this
        cases this
      · go_wp2_with (first | (refine wl_load_cells rfl 87 _ rfl b (o + k * 7) rfl _ _ hc Tryz.underlying87 rfl (by kernel_rfl) ?_) | (go_at_call 80; refine hcon.mono ?_; rintro e w1 ⟨rfl, q1⟩))
        go_roundw
        case rel =>
          refine ⟨k + 1, by omega, rfl, fun j hj hjk => ?_, hq.tr q1⟩
          by_cases hjk2 : j < k
          · exact HK.out j hj hjk2
          · obtain rfl : j = k := by omega
            exact HP.out
        case measure => simp [intOf]; omega
    · go_wp2_with fail
      go_ret
      have e : l.all (entOkM) = true := List.all_eq_true.2 fun x hx => by
        obtain ⟨j, hj, rfl⟩ := List.mem_iff_getElem.1 hx
        exact HK.out j hj (by omega)
      exact ⟨-1, rfl, ⟨fun h => by omega, fun h => by rw [e] at h; cases h⟩, hq⟩
set_option maxRecDepth 100000 in
theorem ents_contains (w : World) (F : Nat → Prop) (A : Option Addr) (c : Nat) (l : List EntM) (hs : Sl w F A (entsC l)) (hl : l.length ≤ 1000000000) (he : ∀ e ∈ l, EntIn w F e) (hz : ∀ e ∈ l, EntSz e) :
    Calls Tryz.prog 79 #[.slice A l.length c, .func (.func 80) #[] #[]] w fun e w' => e = .returned (.bool (!l.all (entOkM))) ∧ Nw w w' := by
  have hI := ents_index w F A c l hs hl he hz
  have HI := Lib.hid hI
  clear hI
  go_enter Tryz.func79, Tryz.ntmps79
  go_wp2_with fail
  refine HI.out.mono ?_
  rintro e w1 ⟨i, rfl, hii, q1⟩
  have hd : decide (0 ≤ i) = !l.all (entOkM) := by
    by_cases h0 : 0 ≤ i
    · rw [decide_eq_true h0, hii.1 h0]; rfl
    · have hn : l.all (entOkM) = true := by
        cases h : l.all (entOkM) with
        | true => rfl
        | false => exact (h0 (hii.2 h)).elim
      rw [decide_eq_false h0, hn]; rfl
  have HD := Lib.hid hd
  clear hd hii
  go_wp2_with fail
  go_ret
  exact ⟨congrArg (fun b => Ending.returned (.bool b)) HD.out, q1⟩
end Go.Proofs.YtippdjaakcgeoaaGreat

namespace Go.Proofs.YtippdjaakcgeoaaGreat
open Go Go.RowKit
set_option linter.unusedVariables false
set_option linter.unusedSimpArgs false
theorem let_parts (x : LetM) : letOk x.x = (withinB 1 8 [x.kind] && (withinB 0 4 [x.group] && (withinB 1 5 [x.src, x.dst] && (withinB 0 1073741824 [x.term, x.index, x.logt, x.commit, x.size, x.at_, x.base.index, x.base.term] && (withinB 0 4611686018427387903 [x.tag] && (decide (x.ents.l.length ≤ 30) && (decide (x.bytes.l.length ≤ 131072) && (cfgOk x.base.cfg.x && x.ents.l.all entOkM)))))))) := by
  have he : (x.ents.l.map EntM.x).all entOk = x.ents.l.all entOkM := by rw [List.all_map]; rfl
  rw [Bool.eq_iff_iff]
  unfold letOk basOk topOk withinB wOk
  simp only [he, List.length_map, List.all_cons, List.all_nil, Bool.and_true, Bool.and_eq_true, decide_eq_true_eq]
  constructor
  · rintro ⟨⟨h1, h2, h3, h4, h5, h6⟩, h7, ⟨h8, h9, h10, h11⟩, ⟨h12, h13, h14, h15, h16⟩, h17⟩
    exact ⟨h8, h9, ⟨h10, h11⟩, ⟨h1, h2, h3, h4, h5, h6, h14, h15⟩, h7, h12, h13, h16, h17⟩
  · rintro ⟨h8, h9, ⟨h10, h11⟩, ⟨h1, h2, h3, h4, h5, h6, h14, h15⟩, h7, h12, h13, h16, h17⟩
    exact ⟨⟨h1, h2, h3, h4, h5, h6⟩, h7, ⟨h8, h9, h10, h11⟩, ⟨h12, h13, h14, h15, h16⟩, h17⟩
def LRightR (w : World) (l : List LetM) (i : Value) (wr : World) : Prop := ∃ k : Nat, k ≤ l.length ∧ i = .int .i64 k ∧ (∀ j (h : j < l.length), j < k → letOk (l[j]).x = true) ∧ Nw w wr
theorem lets_no {l : List LetM} {k : Nat} (hk : k < l.length) (h : letOk (l[k]).x = false) : letsOk (l.map LetM.x) = false := by
  unfold letsOk
  rw [List.all_eq_false]
  exact ⟨(l[k]).x, List.mem_map.2 ⟨_, List.getElem_mem hk, rfl⟩, by rw [h]; simp⟩
theorem lets_yes {l : List LetM} (h : ∀ j (h : j < l.length), letOk (l[j]).x = true) : letsOk (l.map LetM.x) = true := by
  unfold letsOk
  refine List.all_eq_true.2 fun x hx => ?_
  obtain ⟨y, hy, rfl⟩ := List.mem_map.1 hx
  obtain ⟨j, hj, rfl⟩ := List.mem_iff_getElem.1 hy
  exact h j hj
set_option maxRecDepth 100000 in
set_option maxHeartbeats 16000000 in
theorem lRight_any (w : World) (F : Nat → Prop) (A : Option Addr) (c : Nat) (l : List LetM) (h : Sl w F A (letsC l)) (he : ∀ x ∈ l, LetIn w F x) (hz : ∀ x ∈ l, LetSz x) (hsz : l.length ≤ 1000000000) :
    Calls Tryz.prog 35 #[.slice A l.length c] w fun e w' => e = .returned (.bool (letsOk (l.map LetM.x))) ∧ Nw w w' := by
  have HE := Lib.hid he
  have HZ := Lib.hid hz
  clear he hz
  go_enter Tryz.func35, Tryz.ntmps35
  go_wp2_with fail
  go_loopw [7] (fun i wr => LRightR w l i wr) (fun i _ => l.length - (intOf i).toNat)
  case atStart => exact ⟨0, Nat.zero_le _, rfl, fun _ _ h => by omega, Fr.refl _ _⟩
  case round =>
    obtain ⟨k, hk, rfl, hb, hq⟩ := hrel
    have HB := Lib.hid hb
    clear hb
    by_cases hlt : k < l.length
    · obtain ⟨b, o, rfl, _, _, hc⟩ := (h.fr hq (fun _ _ h => h)).let_ hlt
      have hi0 : (k : Int) < (l.length : Int) := by omega
      have hx := (HE.out _ (List.getElem_mem hlt)).nw hq
      have hz := HZ.out _ (List.getElem_mem hlt)
      have hnx : letOk (l[k]).x = true → LRightR w l (.int .i64 ((k : Int) + 1)) wr := fun hok => ⟨k + 1, hlt, by go_num, fun j hj hjk => by
        by_cases e : j < k
        · exact HB.out j hj e
        · obtain rfl : j = k := by omega
          exact hok, hq⟩
      have hno : letOk (l[k]).x = false → letsOk (l.map LetM.x) = false := lets_no hlt
      obtain ⟨x, hxe⟩ : ∃ x, l[k] = x := ⟨_, rfl⟩
      rw [hxe] at hc hx hz hnx hno
      have hparts := let_parts x
      obtain ⟨ok, hok⟩ : ∃ d, letOk x.x = d := ⟨_, rfl⟩
      rw [hok] at hparts hnx hno
      obtain ⟨G, hG⟩ : ∃ G, G = wr.heap.size := ⟨_, rfl⟩
      obtain ⟨V0, hV0⟩ : ∃ V, V = wr.alloc (.cells #[U8V 0, I64 0, I64 0, I64 0, I64 0, I64 0, I64 0, I64 0, .bool false, .slice none 0 0, I64 0, I64 0, .slice none 0 0, .slice none 0 0, .slice none 0 0, .slice none 0 0, I64 0, I64 0, I64 0, .slice none 0 0] 50) := ⟨_, rfl⟩
      have qv0 : Nw wr V0 := by rw [hV0]; exact (Fr.refl (fun _ => False) wr).alloc _
      have g0 : Blk V0 G 50 #[U8V 0, I64 0, I64 0, I64 0, I64 0, I64 0, I64 0, I64 0, .bool false, .slice none 0 0, I64 0, I64 0, .slice none 0 0, .slice none 0 0, .slice none 0 0, .slice none 0 0, I64 0, I64 0, I64 0, .slice none 0 0] := by rw [hV0, hG]; exact Blk.new _ _ _
      obtain ⟨V1, hV1⟩ : ∃ V, V = V0.setCells G 0 [U8V x.kind, I64 x.group, I64 x.src, I64 x.dst, I64 x.term, I64 x.index, I64 x.logt, I64 x.commit, .bool x.ok, .slice x.ents.a x.ents.l.length x.ents.c, I64 x.base.index, I64 x.base.term, .slice x.base.cfg.v.a x.base.cfg.v.l.length x.base.cfg.v.c, .slice x.base.cfg.o.a x.base.cfg.o.l.length x.base.cfg.o.c, .slice x.base.cfg.l.a x.base.cfg.l.l.length x.base.cfg.l.c, .slice x.base.cfg.w.a x.base.cfg.w.l.length x.base.cfg.w.c, I64 x.size, I64 x.at_, I64 x.tag, .slice x.bytes.a x.bytes.l.length x.bytes.c] := ⟨_, rfl⟩
      have g1 : Blk V1 G 50 #[U8V x.kind, I64 x.group, I64 x.src, I64 x.dst, I64 x.term, I64 x.index, I64 x.logt, I64 x.commit, .bool x.ok, .slice x.ents.a x.ents.l.length x.ents.c, I64 x.base.index, I64 x.base.term, .slice x.base.cfg.v.a x.base.cfg.v.l.length x.base.cfg.v.c, .slice x.base.cfg.o.a x.base.cfg.o.l.length x.base.cfg.o.c, .slice x.base.cfg.l.a x.base.cfg.l.l.length x.base.cfg.l.c, .slice x.base.cfg.w.a x.base.cfg.w.l.length x.base.cfg.w.c, I64 x.size, I64 x.at_, I64 x.tag, .slice x.bytes.a x.bytes.l.length x.bytes.c] := by rw [hV1]; exact Blk.setCells (l := [U8V 0, I64 0, I64 0, I64 0, I64 0, I64 0, I64 0, I64 0, .bool false, .slice none 0 0, I64 0, I64 0, .slice none 0 0, .slice none 0 0, .slice none 0 0, .slice none 0 0, I64 0, I64 0, I64 0, .slice none 0 0]) g0 0 [U8V x.kind, I64 x.group, I64 x.src, I64 x.dst, I64 x.term, I64 x.index, I64 x.logt, I64 x.commit, .bool x.ok, .slice x.ents.a x.ents.l.length x.ents.c, I64 x.base.index, I64 x.base.term, .slice x.base.cfg.v.a x.base.cfg.v.l.length x.base.cfg.v.c, .slice x.base.cfg.o.a x.base.cfg.o.l.length x.base.cfg.o.c, .slice x.base.cfg.l.a x.base.cfg.l.l.length x.base.cfg.l.c, .slice x.base.cfg.w.a x.base.cfg.w.l.length x.base.cfg.w.c, I64 x.size, I64 x.at_, I64 x.tag, .slice x.bytes.a x.bytes.l.length x.bytes.c]
      have m1 : Fr (· = G) V0 V1 := by rw [hV1]; exact (Fr.refl (· = G) _).setCells _ _
      have qv1 : Nw wr V1 := qv0.new m1 (fun b hb => by omega)
      have hth := Blk.there (l := [U8V 0, I64 0, I64 0, I64 0, I64 0, I64 0, I64 0, I64 0, .bool false, .slice none 0 0, I64 0, I64 0, .slice none 0 0, .slice none 0 0, .slice none 0 0, .slice none 0 0, I64 0, I64 0, I64 0, .slice none 0 0]) g0 0 20 (by show 0 + 20 ≤ 20; omega)
      have hone := letA_one x
      have z1 : ∀ w1, Nw V1 w1 → Calls Tryz.prog 77 #[I64 1, I64 8, .slice (some ⟨w1.heap.size, 0, none⟩) 1 1] (w1.alloc (.cells #[I64 x.kind] 3)) fun e w' => e = .returned (.bool (withinB 1 8 [x.kind])) ∧ Nw w1 w' := fun w1 f => (within_any (w1.alloc (.cells #[I64 x.kind] 3)) (· = w1.heap.size) _ 1 [x.kind] 1 8 (sl_new w1 3 [I64 x.kind] _ rfl) (by show 1 ≤ 1000000000; omega)).mono fun e w' h => ⟨h.1, ((Fr.refl (fun _ => False) w1).alloc _).tr h.2⟩
      have z2 : ∀ w1, Nw V1 w1 → Calls Tryz.prog 77 #[I64 0, I64 4, .slice (some ⟨w1.heap.size, 0, none⟩) 1 1] (w1.alloc (.cells #[I64 x.group] 3)) fun e w' => e = .returned (.bool (withinB 0 4 [x.group])) ∧ Nw w1 w' := fun w1 f => (within_any (w1.alloc (.cells #[I64 x.group] 3)) (· = w1.heap.size) _ 1 [x.group] 0 4 (sl_new w1 3 [I64 x.group] _ rfl) (by show 1 ≤ 1000000000; omega)).mono fun e w' h => ⟨h.1, ((Fr.refl (fun _ => False) w1).alloc _).tr h.2⟩
      have z3 : ∀ w1, Nw V1 w1 → Calls Tryz.prog 77 #[I64 1, I64 5, .slice (some ⟨w1.heap.size, 0, none⟩) 2 2] (w1.alloc (.cells #[I64 x.src, I64 x.dst] 3)) fun e w' => e = .returned (.bool (withinB 1 5 [x.src, x.dst])) ∧ Nw w1 w' := fun w1 f => (within_any (w1.alloc (.cells #[I64 x.src, I64 x.dst] 3)) (· = w1.heap.size) _ 2 [x.src, x.dst] 1 5 (sl_new w1 3 [I64 x.src, I64 x.dst] _ rfl) (by show 2 ≤ 1000000000; omega)).mono fun e w' h => ⟨h.1, ((Fr.refl (fun _ => False) w1).alloc _).tr h.2⟩
      have z4 : ∀ w1, Nw V1 w1 → Calls Tryz.prog 77 #[I64 0, I64 1073741824, .slice (some ⟨w1.heap.size, 0, none⟩) 8 8] (w1.alloc (.cells #[I64 x.term, I64 x.index, I64 x.logt, I64 x.commit, I64 x.size, I64 x.at_, I64 x.base.index, I64 x.base.term] 3)) fun e w' => e = .returned (.bool (withinB 0 1073741824 [x.term, x.index, x.logt, x.commit, x.size, x.at_, x.base.index, x.base.term])) ∧ Nw w1 w' := fun w1 f => (within_any (w1.alloc (.cells #[I64 x.term, I64 x.index, I64 x.logt, I64 x.commit, I64 x.size, I64 x.at_, I64 x.base.index, I64 x.base.term] 3)) (· = w1.heap.size) _ 8 [x.term, x.index, x.logt, x.commit, x.size, x.at_, x.base.index, x.base.term] 0 1073741824 (sl_new w1 3 [I64 x.term, I64 x.index, I64 x.logt, I64 x.commit, I64 x.size, I64 x.at_, I64 x.base.index, I64 x.base.term] _ rfl) (by show 8 ≤ 1000000000; omega)).mono fun e w' h => ⟨h.1, ((Fr.refl (fun _ => False) w1).alloc _).tr h.2⟩
      have z5 : ∀ w1, Nw V1 w1 → Calls Tryz.prog 77 #[I64 0, I64 4611686018427387903, .slice (some ⟨w1.heap.size, 0, none⟩) 1 1] (w1.alloc (.cells #[I64 x.tag] 3)) fun e w' => e = .returned (.bool (withinB 0 4611686018427387903 [x.tag])) ∧ Nw w1 w' := fun w1 f => (within_any (w1.alloc (.cells #[I64 x.tag] 3)) (· = w1.heap.size) _ 1 [x.tag] 0 4611686018427387903 (sl_new w1 3 [I64 x.tag] _ rfl) (by show 1 ≤ 1000000000; omega)).mono fun e w' h => ⟨h.1, ((Fr.refl (fun _ => False) w1).alloc _).tr h.2⟩
      have z6 : ∀ w1, Nw V1 w1 → Calls Tryz.prog 78 #[.agg #[.slice x.base.cfg.v.a x.base.cfg.v.l.length x.base.cfg.v.c, .slice x.base.cfg.o.a x.base.cfg.o.l.length x.base.cfg.o.c, .slice x.base.cfg.l.a x.base.cfg.l.l.length x.base.cfg.l.c, .slice x.base.cfg.w.a x.base.cfg.w.l.length x.base.cfg.w.c]] w1 fun e w' => e = .returned (.bool (cfgOk x.base.cfg.x)) ∧ Nw w1 w' := fun w1 f => jcfg w1 F x.base.cfg (hx.cfg.nw (qv1.tr f)) hz.cfg
      have z7 : ∀ w1, Nw V1 w1 → Calls Tryz.prog 79 #[.slice x.ents.a x.ents.l.length x.ents.c, .func (.func 80) #[] #[]] w1 fun e w' => e = .returned (.bool (!x.ents.l.all entOkM)) ∧ Nw w1 w' := fun w1 f => ents_contains w1 F _ _ x.ents.l (hx.ents.nw (qv1.tr f)).sl (by have := hz.ents; omega) (fun e he => (hx.each e he).nw (qv1.tr f)) hz.each
      obtain ⟨d6, hd6⟩ : ∃ d, cfgOk x.base.cfg.x = d := ⟨_, rfl⟩
      obtain ⟨d7, hd7⟩ : ∃ d, x.ents.l.all entOkM = d := ⟨_, rfl⟩
      simp only [hd6] at z6
      simp only [hd7] at z7
      obtain ⟨d1, hd1⟩ : ∃ d, withinB 1 8 [x.kind] = d := ⟨_, rfl⟩
      simp only [hd1] at z1
      have Z1 := Lib.hid z1
      obtain ⟨d2, hd2⟩ : ∃ d, withinB 0 4 [x.group] = d := ⟨_, rfl⟩
      simp only [hd2] at z2
      have Z2 := Lib.hid z2
      obtain ⟨d3, hd3⟩ : ∃ d, withinB 1 5 [x.src, x.dst] = d := ⟨_, rfl⟩
      simp only [hd3] at z3
      have Z3 := Lib.hid z3
      obtain ⟨d4, hd4⟩ : ∃ d, withinB 0 1073741824 [x.term, x.index, x.logt, x.commit, x.size, x.at_, x.base.index, x.base.term] = d := ⟨_, rfl⟩
      simp only [hd4] at z4
      have Z4 := Lib.hid z4
      obtain ⟨d5, hd5⟩ : ∃ d, withinB 0 4611686018427387903 [x.tag] = d := ⟨_, rfl⟩
      simp only [hd5] at z5
      have Z5 := Lib.hid z5
      rw [hd1, hd2, hd3, hd4, hd5, hd6, hd7] at hparts
      have hkd := hx.kind
      have hel : x.ents.l.length ≤ 1000000 := hz.ents
      have hbl : x.bytes.l.length ≤ 1000000 := hz.bytes
      have HG := Lib.hid hG
      have HV0 := Lib.hid hV0
      have HV1 := Lib.hid hV1
      have HP := Lib.hid hparts
      have HNX := Lib.hid hnx
      have HNO := Lib.hid hno
      have Z6 := Lib.hid z6
      have Z7 := Lib.hid z7
      have HOK := Lib.hid hok
      clear hG hV0 hV1 m1 g0 qv0 hparts hnx hno hok hd6 hd7 hd1 z1 hd2 z2 hd3 z3 hd4 z4 hd5 z5 z6 z7 hxe hx hz
      go_upto_region 4 with (first | (refine wl_load_cells rfl 50 _ rfl b (o + k * 20) rfl [U8V x.kind, I64 x.group, I64 x.src, I64 x.dst, I64 x.term, I64 x.index, I64 x.logt, I64 x.commit, .bool x.ok, .slice x.ents.a x.ents.l.length x.ents.c, I64 x.base.index, I64 x.base.term, .slice x.base.cfg.v.a x.base.cfg.v.l.length x.base.cfg.v.c, .slice x.base.cfg.o.a x.base.cfg.o.l.length x.base.cfg.o.c, .slice x.base.cfg.l.a x.base.cfg.l.l.length x.base.cfg.l.c, .slice x.base.cfg.w.a x.base.cfg.w.l.length x.base.cfg.w.c, I64 x.size, I64 x.at_, I64 x.tag, .slice x.bytes.a x.bytes.l.length x.bytes.c] _ hc Tryz.underlying50 rfl (by kernel_rfl) ?_) | (rw [← HG.out, ← HV0.out]; refine wpList_store_mid rfl 50 _ _ rfl G 0 #[U8V x.kind, I64 x.group, I64 x.src, I64 x.dst, I64 x.term, I64 x.index, I64 x.logt, I64 x.commit, .bool x.ok, .slice x.ents.a x.ents.l.length x.ents.c, I64 x.base.index, I64 x.base.term, .slice x.base.cfg.v.a x.base.cfg.v.l.length x.base.cfg.v.c, .slice x.base.cfg.o.a x.base.cfg.o.l.length x.base.cfg.o.c, .slice x.base.cfg.l.a x.base.cfg.l.l.length x.base.cfg.l.c, .slice x.base.cfg.w.a x.base.cfg.w.l.length x.base.cfg.w.c, I64 x.size, I64 x.at_, I64 x.tag, .slice x.bytes.a x.bytes.l.length x.bytes.c] rfl rfl hth (by kernel_rfl) hone ?_))
      rw [← HV1.out]
      have gg := g1.fr (Fr.refl (fun _ => False) V1) (fun h => h)
      have k0 : V1.cell? ⟨G, 0, none⟩ = some (U8V x.kind) := by simpa using gg.cell 0
      clear gg
      have hcv : IntKind.i64.wrap x.kind = x.kind := IntWalk.i64_in _ (by omega)
      go_wp2_with fail
      refine (Z1.out _ (Fr.refl (fun _ => False) V1)).mono ?_
      rintro e v1 ⟨rfl, r1⟩
      have Q1 : Nw V1 v1 := (Fr.refl (fun _ => False) V1).tr r1
      clear k0
      cases d1 with
      | false =>
        go_wp2_with fail
        go_ret
        exact ⟨ret_eq (congrArg Value.bool (HNO.out (by rw [HP.out]; simp)).symm), (hq.tr qv1).tr Q1⟩
      | true =>
      have gg := g1.fr Q1 (fun h => h)
      have k1 : v1.cell? ⟨G, 1, none⟩ = some (I64 x.group) := by simpa using gg.cell 1
      clear gg
      go_wp2_with fail
      refine (Z2.out _ Q1).mono ?_
      rintro e v2 ⟨rfl, r2⟩
      have Q2 : Nw V1 v2 := Q1.tr r2
      clear k1
      cases d2 with
      | false =>
        go_wp2_with fail
        go_ret
        exact ⟨ret_eq (congrArg Value.bool (HNO.out (by rw [HP.out]; simp)).symm), (hq.tr qv1).tr Q2⟩
      | true =>
      have gg := g1.fr Q2 (fun h => h)
      have k2 : v2.cell? ⟨G, 2, none⟩ = some (I64 x.src) := by simpa using gg.cell 2
      have k3 : v2.cell? ⟨G, 3, none⟩ = some (I64 x.dst) := by simpa using gg.cell 3
      clear gg
      go_wp2_with fail
      refine (Z3.out _ Q2).mono ?_
      rintro e v3 ⟨rfl, r3⟩
      have Q3 : Nw V1 v3 := Q2.tr r3
      clear k2 k3
      cases d3 with
      | false =>
        go_wp2_with fail
        go_ret
        exact ⟨ret_eq (congrArg Value.bool (HNO.out (by rw [HP.out]; simp)).symm), (hq.tr qv1).tr Q3⟩
      | true =>
      have gg := g1.fr Q3 (fun h => h)
      have k4 : v3.cell? ⟨G, 4, none⟩ = some (I64 x.term) := by simpa using gg.cell 4
      have k5 : v3.cell? ⟨G, 5, none⟩ = some (I64 x.index) := by simpa using gg.cell 5
      have k6 : v3.cell? ⟨G, 6, none⟩ = some (I64 x.logt) := by simpa using gg.cell 6
      have k7 : v3.cell? ⟨G, 7, none⟩ = some (I64 x.commit) := by simpa using gg.cell 7
      have k16 : v3.cell? ⟨G, 16, none⟩ = some (I64 x.size) := by simpa using gg.cell 16
      have k17 : v3.cell? ⟨G, 17, none⟩ = some (I64 x.at_) := by simpa using gg.cell 17
      have k10 : v3.cell? ⟨G, 10, none⟩ = some (I64 x.base.index) := by simpa using gg.cell 10
      have k11 : v3.cell? ⟨G, 11, none⟩ = some (I64 x.base.term) := by simpa using gg.cell 11
      clear gg
      go_wp2_with fail
      refine (Z4.out _ Q3).mono ?_
      rintro e v4 ⟨rfl, r4⟩
      have Q4 : Nw V1 v4 := Q3.tr r4
      clear k4 k5 k6 k7 k16 k17 k10 k11
      cases d4 with
      | false =>
        go_wp2_with fail
        go_ret
        exact ⟨ret_eq (congrArg Value.bool (HNO.out (by rw [HP.out]; simp)).symm), (hq.tr qv1).tr Q4⟩
      | true =>
      have gg := g1.fr Q4 (fun h => h)
      have k18 : v4.cell? ⟨G, 18, none⟩ = some (I64 x.tag) := by simpa using gg.cell 18
      clear gg
      go_wp2_with fail
      refine (Z5.out _ Q4).mono ?_
      rintro e v5 ⟨rfl, r5⟩
      have Q5 : Nw V1 v5 := Q4.tr r5
      clear k18
      cases d5 with
      | false =>
        go_wp2_with fail
        go_ret
        exact ⟨ret_eq (congrArg Value.bool (HNO.out (by rw [HP.out]; simp)).symm), (hq.tr qv1).tr Q5⟩
      | true =>
      have gg := g1.fr Q5 (fun h => h)
      have k9 : v5.cell? ⟨G, 9, none⟩ = some (.slice x.ents.a x.ents.l.length x.ents.c) := by simpa using gg.cell 9
      have k19 : v5.cell? ⟨G, 19, none⟩ = some (.slice x.bytes.a x.bytes.l.length x.bytes.c) := by simpa using gg.cell 19
      have k12 : v5.cell? ⟨G, 12, none⟩ = some (.slice x.base.cfg.v.a x.base.cfg.v.l.length x.base.cfg.v.c) := by simpa using gg.cell 12
      have k13 : v5.cell? ⟨G, 13, none⟩ = some (.slice x.base.cfg.o.a x.base.cfg.o.l.length x.base.cfg.o.c) := by simpa using gg.cell 13
      have k14 : v5.cell? ⟨G, 14, none⟩ = some (.slice x.base.cfg.l.a x.base.cfg.l.l.length x.base.cfg.l.c) := by simpa using gg.cell 14
      have k15 : v5.cell? ⟨G, 15, none⟩ = some (.slice x.base.cfg.w.a x.base.cfg.w.l.length x.base.cfg.w.c) := by simpa using gg.cell 15
      clear gg
      by_cases h30 : x.ents.l.length ≤ 30
      case neg =>
        have g2 : (30 : Int) < (x.ents.l.length : Int) := by omega
        have HN := Lib.hid (decide_eq_false h30)
        go_wp2_with fail
        go_ret
        exact ⟨ret_eq (congrArg Value.bool (HNO.out (by rw [HP.out, HN.out]; simp)).symm), (hq.tr qv1).tr Q5⟩
      have h30i : (x.ents.l.length : Int) ≤ 30 := by omega
      have Hh30 := Lib.hid (decide_eq_true h30)
      by_cases h13 : x.bytes.l.length ≤ 131072
      case neg =>
        have g2 : (131072 : Int) < (x.bytes.l.length : Int) := by omega
        have HN := Lib.hid (decide_eq_false h13)
        go_wp2_with fail
        go_ret
        exact ⟨ret_eq (congrArg Value.bool (HNO.out (by rw [HP.out, HN.out]; simp)).symm), (hq.tr qv1).tr Q5⟩
      have h13i : (x.bytes.l.length : Int) ≤ 131072 := by omega
      have Hh13 := Lib.hid (decide_eq_true h13)
      go_wp2_with fail
      refine (Z6.out _ Q5).mono ?_
      rintro e v6 ⟨rfl, r6⟩
      have Q6 : Nw V1 v6 := Q5.tr r6
      clear k9 k19 k12 k13 k14 k15
      cases d6 with
      | false =>
        go_wp2_with fail
        go_ret
        exact ⟨ret_eq (congrArg Value.bool (HNO.out (by rw [HP.out]; simp)).symm), (hq.tr qv1).tr Q6⟩
      | true =>
      have gg := g1.fr Q6 (fun h => h)
      have k9 : v6.cell? ⟨G, 9, none⟩ = some (.slice x.ents.a x.ents.l.length x.ents.c) := by simpa using gg.cell 9
      clear gg
      go_wp2_with fail
      refine (Z7.out _ Q6).mono ?_
      rintro e v7 ⟨rfl, r7⟩
      have Q7 : Nw V1 v7 := Q6.tr r7
      cases d7 with
      | false =>
        go_wp2_with fail
        go_ret
        exact ⟨ret_eq (congrArg Value.bool (HNO.out (by rw [HP.out]; simp)).symm), (hq.tr qv1).tr Q7⟩
      | true =>
        go_wp2_with fail
        go_roundw
        case rel =>
          obtain ⟨kk, a1, a2, a3, a4⟩ := HNX.out (by rw [HP.out, Hh30.out, Hh13.out]; rfl)
          exact ⟨kk, a1, a2, a3, (hq.tr qv1).tr Q7⟩
        case measure => simp [intOf]; omega
    · obtain rfl : l.length = k := by omega
      go_wp2_with fail
      go_ret
      exact ⟨ret_eq (congrArg Value.bool (lets_yes (fun j hj => HB.out j hj hj)).symm), hq⟩
end Go.Proofs.YtippdjaakcgeoaaGreat
