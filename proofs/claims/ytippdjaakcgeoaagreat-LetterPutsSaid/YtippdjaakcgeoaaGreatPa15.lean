/- Lemmas of the walks: RgB, RgD, GdB, GdE, RrB, GdF. (Laid together by shake.py.) -/
import Derived.Test.YtippdjaakcgeoaaGreatPa01
import Derived.Test.YtippdjaakcgeoaaGreatPa02
import Derived.Test.YtippdjaakcgeoaaGreatPa03
import Derived.Test.YtippdjaakcgeoaaGreatPa13
import Derived.Test.YtippdjaakcgeoaaGreatPa14
set_option linter.unusedVariables false
set_option linter.unusedSimpArgs false
namespace Go.Proofs.YtippdjaakcgeoaaGreat
open Go Go.RowKit
set_option linter.unusedVariables false
set_option linter.unusedSimpArgs false
set_option maxRecDepth 100000 in
theorem jwithin_any (w : World) (b c : Int) : Calls Tryz.prog 156 #[I64 b, I64 c] w fun e w' => e = .returned (.bool (decide (0 ≤ b ∧ b ≤ c))) ∧ w = w' := by
  by_cases h1 : 0 ≤ b
  · by_cases h2 : b ≤ c
    · have e : decide (0 ≤ b ∧ b ≤ c) = true := decide_eq_true ⟨h1, h2⟩
      rw [e]
      go_enter Tryz.func156, Tryz.ntmps156
      go_wp2_with fail
      go_ret
      exact ⟨rfl, rfl⟩
    · have e : decide (0 ≤ b ∧ b ≤ c) = false := decide_eq_false fun h => h2 h.2
      rw [e]
      go_enter Tryz.func156, Tryz.ntmps156
      go_wp2_with fail
      go_ret
      exact ⟨by simp, rfl⟩
  · have e : decide (0 ≤ b ∧ b ≤ c) = false := decide_eq_false fun h => h1 h.1
    rw [e]
    go_enter Tryz.func156, Tryz.ntmps156
    go_wp2_with fail
    go_ret
    exact ⟨by simp, rfl⟩
set_option maxRecDepth 100000 in
set_option maxHeartbeats 4000000 in
theorem jent (w : World) (F : Nat → Prop) (x : EntM) (hx : EntIn w F x) (hz : EntSz x) : Calls Tryz.prog 81 #[.agg (entA x)] w fun e w' => e = .returned (.bool (entOk x.x)) ∧ Nw w w' := by
  obtain ⟨W0, hW0⟩ : ∃ W, W = w.alloc (.cells (entA x) 87) := ⟨_, rfl⟩
  have p0 : Nw w W0 := by rw [hW0]; exact (Fr.refl (fun _ => False) _).alloc _
  have b0 : Blk W0 w.heap.size 87 (entA x) := by rw [hW0]; exact Blk.new _ _ _
  have k0 : W0.cell? ⟨w.heap.size, 0, none⟩ = some (I64 x.term) := by simpa using b0.cell 0
  have k1 : W0.cell? ⟨w.heap.size, 1, none⟩ = some (U8V x.kind) := by simpa using b0.cell 1
  have k2 : W0.cell? ⟨w.heap.size, 2, none⟩ = some (.slice x.cmd.a x.cmd.l.length x.cmd.c) := by simpa using b0.cell 2
  have k3 : W0.cell? ⟨w.heap.size, 3, none⟩ = some (.slice x.cfg.v.a x.cfg.v.l.length x.cfg.v.c) := by simpa using b0.cell 3
  have k4 : W0.cell? ⟨w.heap.size, 4, none⟩ = some (.slice x.cfg.o.a x.cfg.o.l.length x.cfg.o.c) := by simpa using b0.cell 4
  have k5 : W0.cell? ⟨w.heap.size, 5, none⟩ = some (.slice x.cfg.l.a x.cfg.l.l.length x.cfg.l.c) := by simpa using b0.cell 5
  have k6 : W0.cell? ⟨w.heap.size, 6, none⟩ = some (.slice x.cfg.w.a x.cfg.w.l.length x.cfg.w.c) := by simpa using b0.cell 6
  have he := fun w' => jempty w' F x.cfg hz.cfg
  have hc : ∀ w', Nw W0 w' → _ := fun w' f => jcfg w' F x.cfg (hx.cfg.nw (p0.tr f)) hz.cfg
  have hok : entOk x.x = (topOk x.term && (if x.kind = 1 then decide (x.cmd.l.length = 0) && cfgNone x.cfg.x else if x.kind = 2 then decide (x.cmd.l.length ≤ 131072) && cfgNone x.cfg.x else decide (x.kind = 3) && (decide (x.cmd.l.length = 0) && cfgOk x.cfg.x))) := rfl
  obtain ⟨nn, hnn⟩ : ∃ d, cfgNone x.cfg.x = d := ⟨_, rfl⟩
  obtain ⟨cc, hcc⟩ : ∃ d, cfgOk x.cfg.x = d := ⟨_, rfl⟩
  simp only [hnn] at he
  simp only [hcc] at hc
  rw [hnn, hcc] at hok
  obtain ⟨r, hr⟩ : ∃ r, entOk x.x = r := ⟨_, rfl⟩
  rw [hr] at hok ⊢
  have hcl := hz.cmd
  have HW0 := Lib.hid hW0
  have HO := Lib.hid hok
  have hkd := hx.kind
  clear hW0 hr hnn hcc hx hz hok b0
  generalize x.cmd.l.length = n at *
  by_cases ht : 0 ≤ x.term ∧ x.term ≤ 1073741824
  case neg =>
    have htd : topOk x.term = false := decide_eq_false ht
    have HT := Lib.hid htd
    clear htd
    have hw := fun w => jwithin_any w x.term 1073741824
    simp only [decide_eq_false ht] at hw
    have HWi := Lib.hid ht
    clear ht
    go_enter Tryz.func81, Tryz.ntmps81
    go_upto_region 1 with (fail)
    rw [← HW0.out]
    go_wp2_with (first | (go_at_call 156; refine (hw _).mono ?_; rintro e v ⟨rfl, rfl⟩) | (go_at_call 157; refine (he _).mono ?_; rintro e w2 ⟨rfl, q2⟩) | (go_at_call 78; refine (hc _ (Fr.refl _ _)).mono ?_; rintro e w2 ⟨rfl, q2⟩))
    go_ret
    exact ⟨ret_eq (congrArg Value.bool (by rw [HO.out]; rw [HT.out]; rfl)), p0⟩
  have htd : topOk x.term = true := decide_eq_true ht
  have HT := Lib.hid htd
  clear htd
  obtain ⟨ht1, ht2⟩ := ht
  have hw := fun w => jwithin_any w x.term 1073741824
  simp only [decide_eq_true (show 0 ≤ x.term ∧ x.term ≤ 1073741824 from ⟨ht1, ht2⟩)] at hw
  by_cases h1 : x.kind = 1
  · have g1 : (x.kind == 1) = true := by simp [h1]
    have H1 := Lib.hid h1
    clear h1
    by_cases h4 : n = 0
    · have g4 : ((n : Int) == 0) = true := by simp [h4]
      have H4 := Lib.hid h4
      clear h4
      go_enter Tryz.func81, Tryz.ntmps81
      go_upto_region 1 with (fail)
      rw [← HW0.out]
      go_wp2_with (first | (go_at_call 156; refine (hw _).mono ?_; rintro e v ⟨rfl, rfl⟩) | (go_at_call 157; refine (he _).mono ?_; rintro e w2 ⟨rfl, q2⟩) | (go_at_call 78; refine (hc _ (Fr.refl _ _)).mono ?_; rintro e w2 ⟨rfl, q2⟩))
      go_ret
      exact ⟨ret_eq (congrArg Value.bool (by rw [HO.out]; rw [HT.out, if_pos H1.out, decide_eq_true H4.out]; rfl)), p0.tr q2⟩
    · have g4 : ((n : Int) == 0) = false := by simp [h4]
      have H4 := Lib.hid h4
      clear h4
      go_enter Tryz.func81, Tryz.ntmps81
      go_upto_region 1 with (fail)
      rw [← HW0.out]
      go_wp2_with (first | (go_at_call 156; refine (hw _).mono ?_; rintro e v ⟨rfl, rfl⟩) | (go_at_call 157; refine (he _).mono ?_; rintro e w2 ⟨rfl, q2⟩) | (go_at_call 78; refine (hc _ (Fr.refl _ _)).mono ?_; rintro e w2 ⟨rfl, q2⟩))
      go_ret
      exact ⟨ret_eq (congrArg Value.bool (by rw [HO.out]; rw [HT.out, if_pos H1.out, decide_eq_false H4.out]; rfl)), p0⟩
  · have g1 : (x.kind == 1) = false := by simp [h1]
    have H1 := Lib.hid h1
    clear h1
    by_cases h2 : x.kind = 2
    · have g2 : (x.kind == 2) = true := by simp [h2]
      have H2 := Lib.hid h2
      clear h2
      by_cases h4 : n ≤ 131072
      · have g4 : (n : Int) ≤ 131072 := by omega
        have H4 := Lib.hid h4
        clear h4
        go_enter Tryz.func81, Tryz.ntmps81
        go_upto_region 1 with (fail)
        rw [← HW0.out]
        go_wp2_with (first | (go_at_call 156; refine (hw _).mono ?_; rintro e v ⟨rfl, rfl⟩) | (go_at_call 157; refine (he _).mono ?_; rintro e w2 ⟨rfl, q2⟩) | (go_at_call 78; refine (hc _ (Fr.refl _ _)).mono ?_; rintro e w2 ⟨rfl, q2⟩))
        go_ret
        exact ⟨ret_eq (congrArg Value.bool (by rw [HO.out]; rw [HT.out, if_neg H1.out, if_pos H2.out, decide_eq_true H4.out]; rfl)), p0.tr q2⟩
      · have g4 : ¬ (n : Int) ≤ 131072 := by omega
        have H4 := Lib.hid h4
        clear h4
        go_enter Tryz.func81, Tryz.ntmps81
        go_upto_region 1 with (fail)
        rw [← HW0.out]
        go_wp2_with (first | (go_at_call 156; refine (hw _).mono ?_; rintro e v ⟨rfl, rfl⟩) | (go_at_call 157; refine (he _).mono ?_; rintro e w2 ⟨rfl, q2⟩) | (go_at_call 78; refine (hc _ (Fr.refl _ _)).mono ?_; rintro e w2 ⟨rfl, q2⟩))
        go_ret
        exact ⟨ret_eq (congrArg Value.bool (by rw [HO.out]; rw [HT.out, if_neg H1.out, if_pos H2.out, decide_eq_false H4.out]; rfl)), p0⟩
    · have g2 : (x.kind == 2) = false := by simp [h2]
      have H2 := Lib.hid h2
      clear h2
      by_cases h3 : x.kind = 3
      · have g3 : (x.kind == 3) = true := by simp [h3]
        have H3 := Lib.hid h3
        clear h3
        by_cases h4 : n = 0
        · have g4 : ((n : Int) == 0) = true := by simp [h4]
          have H4 := Lib.hid h4
          clear h4
          go_enter Tryz.func81, Tryz.ntmps81
          go_upto_region 1 with (fail)
          rw [← HW0.out]
          go_wp2_with (first | (go_at_call 156; refine (hw _).mono ?_; rintro e v ⟨rfl, rfl⟩) | (go_at_call 157; refine (he _).mono ?_; rintro e w2 ⟨rfl, q2⟩) | (go_at_call 78; refine (hc _ (Fr.refl _ _)).mono ?_; rintro e w2 ⟨rfl, q2⟩))
          go_ret
          exact ⟨ret_eq (congrArg Value.bool (by rw [HO.out]; rw [HT.out, if_neg H1.out, if_neg H2.out, decide_eq_true H3.out, decide_eq_true H4.out]; rfl)), p0.tr q2⟩
        · have g4 : ((n : Int) == 0) = false := by simp [h4]
          have H4 := Lib.hid h4
          clear h4
          go_enter Tryz.func81, Tryz.ntmps81
          go_upto_region 1 with (fail)
          rw [← HW0.out]
          go_wp2_with (first | (go_at_call 156; refine (hw _).mono ?_; rintro e v ⟨rfl, rfl⟩) | (go_at_call 157; refine (he _).mono ?_; rintro e w2 ⟨rfl, q2⟩) | (go_at_call 78; refine (hc _ (Fr.refl _ _)).mono ?_; rintro e w2 ⟨rfl, q2⟩))
          go_ret
          exact ⟨ret_eq (congrArg Value.bool (by rw [HO.out]; rw [HT.out, if_neg H1.out, if_neg H2.out, decide_eq_true H3.out, decide_eq_false H4.out]; rfl)), p0⟩
      · have g3 : (x.kind == 3) = false := by simp [h3]
        have H3 := Lib.hid h3
        clear h3
        go_enter Tryz.func81, Tryz.ntmps81
        go_upto_region 1 with (fail)
        rw [← HW0.out]
        go_wp2_with (first | (go_at_call 156; refine (hw _).mono ?_; rintro e v ⟨rfl, rfl⟩) | (go_at_call 157; refine (he _).mono ?_; rintro e w2 ⟨rfl, q2⟩) | (go_at_call 78; refine (hc _ (Fr.refl _ _)).mono ?_; rintro e w2 ⟨rfl, q2⟩))
        go_ret
        exact ⟨ret_eq (congrArg Value.bool (by rw [HO.out]; rw [HT.out, if_neg H1.out, if_neg H2.out, decide_eq_false H3.out]; rfl)), p0⟩
set_option maxRecDepth 100000 in
set_option maxHeartbeats 4000000 in
theorem rent (w : World) (F : Nat → Prop) (x : EntM) (hx : EntIn w F x) (hz : EntSz x) : Calls Tryz.prog 132 #[.agg (entA x)] w fun e w' => e = .returned (.bool (entOk x.x)) ∧ Nw w w' := by
  obtain ⟨W0, hW0⟩ : ∃ W, W = w.alloc (.cells (entA x) 87) := ⟨_, rfl⟩
  have p0 : Nw w W0 := by rw [hW0]; exact (Fr.refl (fun _ => False) _).alloc _
  have b0 : Blk W0 w.heap.size 87 (entA x) := by rw [hW0]; exact Blk.new _ _ _
  have k0 : W0.cell? ⟨w.heap.size, 0, none⟩ = some (I64 x.term) := by simpa using b0.cell 0
  have k1 : W0.cell? ⟨w.heap.size, 1, none⟩ = some (U8V x.kind) := by simpa using b0.cell 1
  have k2 : W0.cell? ⟨w.heap.size, 2, none⟩ = some (.slice x.cmd.a x.cmd.l.length x.cmd.c) := by simpa using b0.cell 2
  have k3 : W0.cell? ⟨w.heap.size, 3, none⟩ = some (.slice x.cfg.v.a x.cfg.v.l.length x.cfg.v.c) := by simpa using b0.cell 3
  have k4 : W0.cell? ⟨w.heap.size, 4, none⟩ = some (.slice x.cfg.o.a x.cfg.o.l.length x.cfg.o.c) := by simpa using b0.cell 4
  have k5 : W0.cell? ⟨w.heap.size, 5, none⟩ = some (.slice x.cfg.l.a x.cfg.l.l.length x.cfg.l.c) := by simpa using b0.cell 5
  have k6 : W0.cell? ⟨w.heap.size, 6, none⟩ = some (.slice x.cfg.w.a x.cfg.w.l.length x.cfg.w.c) := by simpa using b0.cell 6
  have he := fun w' => rnone w' F x.cfg hz.cfg
  have hc : ∀ w', Nw W0 w' → _ := fun w' f => rcfg w' F x.cfg (hx.cfg.nw (p0.tr f)) hz.cfg
  have hok : entOk x.x = (topOk x.term && (if x.kind = 1 then decide (x.cmd.l.length = 0) && cfgNone x.cfg.x else if x.kind = 2 then decide (x.cmd.l.length ≤ 131072) && cfgNone x.cfg.x else decide (x.kind = 3) && (decide (x.cmd.l.length = 0) && cfgOk x.cfg.x))) := rfl
  obtain ⟨nn, hnn⟩ : ∃ d, cfgNone x.cfg.x = d := ⟨_, rfl⟩
  obtain ⟨cc, hcc⟩ : ∃ d, cfgOk x.cfg.x = d := ⟨_, rfl⟩
  simp only [hnn] at he
  simp only [hcc] at hc
  rw [hnn, hcc] at hok
  obtain ⟨r, hr⟩ : ∃ r, entOk x.x = r := ⟨_, rfl⟩
  rw [hr] at hok ⊢
  have hcl := hz.cmd
  have HW0 := Lib.hid hW0
  have HO := Lib.hid hok
  have hkd := hx.kind
  clear hW0 hr hnn hcc hx hz hok b0
  generalize x.cmd.l.length = n at *
  by_cases ht : 0 ≤ x.term ∧ x.term ≤ 1073741824
  case neg =>
    have htd : topOk x.term = false := decide_eq_false ht
    have HT := Lib.hid htd
    clear htd
    by_cases hlo : x.term < 0
    · clear ht
      go_enter Tryz.func132, Tryz.ntmps132
      go_upto_region 1 with (fail)
      rw [← HW0.out]
      go_wp2_with (first | (go_at_call 199; refine (he _).mono ?_; rintro e w2 ⟨rfl, q2⟩) | (go_at_call 198; refine (hc _ (Fr.refl _ _)).mono ?_; rintro e w2 ⟨rfl, q2⟩))
      go_ret
      exact ⟨ret_eq (congrArg Value.bool (by rw [HO.out]; rw [HT.out]; rfl)), p0⟩
    · have hhi : 1073741824 < x.term := by omega
      have hlo2 : 0 ≤ x.term := by omega
      clear ht hlo
      go_enter Tryz.func132, Tryz.ntmps132
      go_upto_region 1 with (fail)
      rw [← HW0.out]
      go_wp2_with (first | (go_at_call 199; refine (he _).mono ?_; rintro e w2 ⟨rfl, q2⟩) | (go_at_call 198; refine (hc _ (Fr.refl _ _)).mono ?_; rintro e w2 ⟨rfl, q2⟩))
      go_ret
      exact ⟨ret_eq (congrArg Value.bool (by rw [HO.out]; rw [HT.out]; rfl)), p0⟩
  have htd : topOk x.term = true := decide_eq_true ht
  have HT := Lib.hid htd
  clear htd
  obtain ⟨ht1, ht2⟩ := ht
  by_cases h1 : x.kind = 1
  · have g1 : (x.kind == 1) = true := by simp [h1]
    have H1 := Lib.hid h1
    clear h1
    by_cases h4 : n = 0
    · have g4 : ((n : Int) == 0) = true := by simp [h4]
      have H4 := Lib.hid h4
      clear h4
      go_enter Tryz.func132, Tryz.ntmps132
      go_upto_region 1 with (fail)
      rw [← HW0.out]
      go_wp2_with (first | (go_at_call 199; refine (he _).mono ?_; rintro e w2 ⟨rfl, q2⟩) | (go_at_call 198; refine (hc _ (Fr.refl _ _)).mono ?_; rintro e w2 ⟨rfl, q2⟩))
      go_ret
      exact ⟨ret_eq (congrArg Value.bool (by rw [HO.out]; rw [HT.out, if_pos H1.out, decide_eq_true H4.out]; rfl)), p0.tr q2⟩
    · have g4 : ((n : Int) == 0) = false := by simp [h4]
      have H4 := Lib.hid h4
      clear h4
      go_enter Tryz.func132, Tryz.ntmps132
      go_upto_region 1 with (fail)
      rw [← HW0.out]
      go_wp2_with (first | (go_at_call 199; refine (he _).mono ?_; rintro e w2 ⟨rfl, q2⟩) | (go_at_call 198; refine (hc _ (Fr.refl _ _)).mono ?_; rintro e w2 ⟨rfl, q2⟩))
      go_ret
      exact ⟨ret_eq (congrArg Value.bool (by rw [HO.out]; rw [HT.out, if_pos H1.out, decide_eq_false H4.out]; rfl)), p0⟩
  · have g1 : (x.kind == 1) = false := by simp [h1]
    have H1 := Lib.hid h1
    clear h1
    by_cases h2 : x.kind = 2
    · have g2 : (x.kind == 2) = true := by simp [h2]
      have H2 := Lib.hid h2
      clear h2
      by_cases h4 : n ≤ 131072
      · have g4 : (n : Int) ≤ 131072 := by omega
        have H4 := Lib.hid h4
        clear h4
        go_enter Tryz.func132, Tryz.ntmps132
        go_upto_region 1 with (fail)
        rw [← HW0.out]
        go_wp2_with (first | (go_at_call 199; refine (he _).mono ?_; rintro e w2 ⟨rfl, q2⟩) | (go_at_call 198; refine (hc _ (Fr.refl _ _)).mono ?_; rintro e w2 ⟨rfl, q2⟩))
        go_ret
        exact ⟨ret_eq (congrArg Value.bool (by rw [HO.out]; rw [HT.out, if_neg H1.out, if_pos H2.out, decide_eq_true H4.out]; rfl)), p0.tr q2⟩
      · have g4 : ¬ (n : Int) ≤ 131072 := by omega
        have H4 := Lib.hid h4
        clear h4
        go_enter Tryz.func132, Tryz.ntmps132
        go_upto_region 1 with (fail)
        rw [← HW0.out]
        go_wp2_with (first | (go_at_call 199; refine (he _).mono ?_; rintro e w2 ⟨rfl, q2⟩) | (go_at_call 198; refine (hc _ (Fr.refl _ _)).mono ?_; rintro e w2 ⟨rfl, q2⟩))
        go_ret
        exact ⟨ret_eq (congrArg Value.bool (by rw [HO.out]; rw [HT.out, if_neg H1.out, if_pos H2.out, decide_eq_false H4.out]; rfl)), p0⟩
    · have g2 : (x.kind == 2) = false := by simp [h2]
      have H2 := Lib.hid h2
      clear h2
      by_cases h3 : x.kind = 3
      · have g3 : (x.kind == 3) = true := by simp [h3]
        have H3 := Lib.hid h3
        clear h3
        by_cases h4 : n = 0
        · have g4 : ((n : Int) == 0) = true := by simp [h4]
          have H4 := Lib.hid h4
          clear h4
          go_enter Tryz.func132, Tryz.ntmps132
          go_upto_region 1 with (fail)
          rw [← HW0.out]
          go_wp2_with (first | (go_at_call 199; refine (he _).mono ?_; rintro e w2 ⟨rfl, q2⟩) | (go_at_call 198; refine (hc _ (Fr.refl _ _)).mono ?_; rintro e w2 ⟨rfl, q2⟩))
          go_ret
          exact ⟨ret_eq (congrArg Value.bool (by rw [HO.out]; rw [HT.out, if_neg H1.out, if_neg H2.out, decide_eq_true H3.out, decide_eq_true H4.out]; rfl)), p0.tr q2⟩
        · have g4 : ((n : Int) == 0) = false := by simp [h4]
          have H4 := Lib.hid h4
          clear h4
          go_enter Tryz.func132, Tryz.ntmps132
          go_upto_region 1 with (fail)
          rw [← HW0.out]
          go_wp2_with (first | (go_at_call 199; refine (he _).mono ?_; rintro e w2 ⟨rfl, q2⟩) | (go_at_call 198; refine (hc _ (Fr.refl _ _)).mono ?_; rintro e w2 ⟨rfl, q2⟩))
          go_ret
          exact ⟨ret_eq (congrArg Value.bool (by rw [HO.out]; rw [HT.out, if_neg H1.out, if_neg H2.out, decide_eq_true H3.out, decide_eq_false H4.out]; rfl)), p0⟩
      · have g3 : (x.kind == 3) = false := by simp [h3]
        have H3 := Lib.hid h3
        clear h3
        go_enter Tryz.func132, Tryz.ntmps132
        go_upto_region 1 with (fail)
        rw [← HW0.out]
        go_wp2_with (first | (go_at_call 199; refine (he _).mono ?_; rintro e w2 ⟨rfl, q2⟩) | (go_at_call 198; refine (hc _ (Fr.refl _ _)).mono ?_; rintro e w2 ⟨rfl, q2⟩))
        go_ret
        exact ⟨ret_eq (congrArg Value.bool (by rw [HO.out]; rw [HT.out, if_neg H1.out, if_neg H2.out, decide_eq_false H3.out]; rfl)), p0⟩
/-! Numbers within bounds. -/
def wOk (lo hi n : Int) : Bool := decide (lo ≤ n ∧ n ≤ hi)
def entOkM (e : EntM) : Bool := entOk e.x
def withinB (lo hi : Int) (l : List Int) : Bool := l.all (wOk lo hi)
set_option maxRecDepth 100000 in
theorem within_c1 (w : World) (x lo hi : Int) (L M : Nat) (cl : w.cell? ⟨L, 0, none⟩ = some (I64 lo)) (cm : w.cell? ⟨M, 0, none⟩ = some (I64 hi)) :
    Calls Tryz.prog 153 #[I64 x, .pointer (some ⟨L, 0, none⟩), .pointer (some ⟨M, 0, none⟩)] w fun e w' => e = .returned (.bool (!wOk lo hi x)) ∧ w = w' := by
  unfold wOk
  by_cases h1 : x < lo
  · have e : (!decide (lo ≤ x ∧ x ≤ hi)) = true := by rw [decide_eq_false (by omega)]; rfl
    rw [e]
    go_enter Tryz.func153, Tryz.ntmps153
    go_wp2_with fail
    go_ret
    exact ⟨by simp, rfl⟩
  · by_cases h2 : hi < x
    · have e : (!decide (lo ≤ x ∧ x ≤ hi)) = true := by rw [decide_eq_false (by omega)]; rfl
      rw [e]
      go_enter Tryz.func153, Tryz.ntmps153
      go_wp2_with fail
      go_ret
      exact ⟨by simp, rfl⟩
    · have e : (!decide (lo ≤ x ∧ x ≤ hi)) = false := by rw [decide_eq_true (by omega)]; rfl
      rw [e]
      go_enter Tryz.func153, Tryz.ntmps153
      go_wp2_with fail
      go_ret
      exact ⟨by simp, rfl⟩
def winR (w : World) (ok : Int → Bool) (l : List Int) (i : Value) (wx : World) : Prop := ∃ k : Nat, k ≤ l.length ∧ i = .int .i64 k ∧ (∀ j (h : j < l.length), j < k → ok l[j] = true) ∧ Nw w wx
set_option maxRecDepth 100000 in
theorem win_index (w : World) (F : Nat → Prop) (A : Option Addr) (c : Nat) (l : List Int) (hs : Sl w F A (intsC l)) (hl : l.length ≤ 1000000000) (lo hi : Int) (L M : Nat) (cl : w.cell? ⟨L, 0, none⟩ = some (I64 lo)) (cm : w.cell? ⟨M, 0, none⟩ = some (I64 hi)) :
    Calls Tryz.prog 208 #[.slice A l.length c, .func (.func 153) #[] #[.pointer (some ⟨L, 0, none⟩), .pointer (some ⟨M, 0, none⟩)]] w
      fun e w' => ∃ i : Int, e = .returned (.int .i64 i) ∧ (0 ≤ i ↔ l.all (wOk lo hi) = false) ∧ Nw w w' := by
  go_enter Tryz.func208, Tryz.ntmps208
  go_wp2_with fail
  go_loopw [8] (fun i wx => winR w (wOk lo hi) l i wx) (fun i _ => l.length - (intOf i).toNat)
  case atStart => exact ⟨0, Nat.zero_le _, rfl, fun _ _ h => by omega, Fr.refl _ _⟩
  case round =>
    obtain ⟨k, hk, rfl, hok, hq⟩ := hrel
    have HK := Lib.hid hok
    clear hok
    by_cases hlt : k < l.length
    · obtain ⟨b, o, rfl, _, hc⟩ := (hs.fr hq (fun _ _ h => h)).get hlt
      have cl2 := (hq.cell (World.block_lt_of_cell? _ _ cl) (fun h => h)).trans cl
      have cm2 := (hq.cell (World.block_lt_of_cell? _ _ cm) (fun h => h)).trans cm
      have hcon := within_c1 wr l[k] lo hi L M cl2 cm2
      obtain ⟨p, hp⟩ : ∃ p, (wOk lo hi) l[k] = p := ⟨_, rfl⟩
      have HP := Lib.hid hp
      simp only [hp] at hcon
      clear hp
      cases p
      · go_wp2_with (first | (go_at_call 153; refine hcon.mono ?_; rintro e w1 ⟨rfl, rfl⟩; have q1 := Fr.refl (fun _ => False) wr))
        go_ret
        refine ⟨k, rfl, ⟨fun _ => ?_, fun _ => by omega⟩, hq.tr q1⟩
        refine Bool.eq_false_iff.2 fun h => ?_
        have := List.all_eq_true.1 h _ (List.getElem_mem hlt)
        rw [HP.out] at this
        cases this
      · go_wp2_with (first | (go_at_call 153; refine hcon.mono ?_; rintro e w1 ⟨rfl, rfl⟩; have q1 := Fr.refl (fun _ => False) wr))
        go_roundw
        case rel =>
          refine ⟨k + 1, by omega, rfl, fun j hj hjk => ?_, hq.tr q1⟩
          by_cases hjk2 : j < k
          · exact HK.out j hj hjk2
          · obtain rfl : j = k := by omega
            exact HP.out
        case measure => simp [intOf]; omega
    · go_wp2_with fail
      go_ret
      have e : l.all (wOk lo hi) = true := List.all_eq_true.2 fun x hx => by
        obtain ⟨j, hj, rfl⟩ := List.mem_iff_getElem.1 hx
        exact HK.out j hj (by omega)
      exact ⟨-1, rfl, ⟨fun h => by omega, fun h => by rw [e] at h; cases h⟩, hq⟩
set_option maxRecDepth 100000 in
theorem win_contains (w : World) (F : Nat → Prop) (A : Option Addr) (c : Nat) (l : List Int) (hs : Sl w F A (intsC l)) (hl : l.length ≤ 1000000000) (lo hi : Int) (L M : Nat) (cl : w.cell? ⟨L, 0, none⟩ = some (I64 lo)) (cm : w.cell? ⟨M, 0, none⟩ = some (I64 hi)) :
    Calls Tryz.prog 152 #[.slice A l.length c, .func (.func 153) #[] #[.pointer (some ⟨L, 0, none⟩), .pointer (some ⟨M, 0, none⟩)]] w fun e w' => e = .returned (.bool (!l.all (wOk lo hi))) ∧ Nw w w' := by
  have hI := win_index w F A c l hs hl lo hi L M cl cm
  have HI := Lib.hid hI
  clear hI
  go_enter Tryz.func152, Tryz.ntmps152
  go_wp2_with fail
  refine HI.out.mono ?_
  rintro e w1 ⟨i, rfl, hii, q1⟩
  have hd : decide (0 ≤ i) = !l.all (wOk lo hi) := by
    by_cases h0 : 0 ≤ i
    · rw [decide_eq_true h0, hii.1 h0]; rfl
    · have hn : l.all (wOk lo hi) = true := by
        cases h : l.all (wOk lo hi) with
        | true => rfl
        | false => exact (h0 (hii.2 h)).elim
      rw [decide_eq_false h0, hn]; rfl
  have HD := Lib.hid hd
  clear hd hii
  go_wp2_with fail
  go_ret
  exact ⟨congrArg (fun b => Ending.returned (.bool b)) HD.out, q1⟩
set_option maxRecDepth 100000 in
theorem within_any (w : World) (F : Nat → Prop) (A : Option Addr) (c : Nat) (l : List Int) (lo hi : Int) (hs : Sl w F A (intsC l)) (hl : l.length ≤ 1000000000) :
    Calls Tryz.prog 77 #[I64 lo, I64 hi, .slice A l.length c] w fun e w' => e = .returned (.bool (withinB lo hi l)) ∧ Nw w w' := by
  obtain ⟨L, hL⟩ : ∃ L, L = w.heap.size := ⟨_, rfl⟩
  obtain ⟨M, hM⟩ : ∃ M, M = w.heap.size + 1 := ⟨_, rfl⟩
  obtain ⟨W0, hW0⟩ : ∃ W, W = (w.alloc (.cells #[I64 lo] 3)).alloc (.cells #[I64 hi] 3) := ⟨_, rfl⟩
  have q0 : Nw w W0 := by rw [hW0]; exact ((Fr.refl (fun _ => False) _).alloc _).alloc _
  have bl : Blk W0 L 3 #[I64 lo] := by rw [hW0, hL]; exact (Blk.new w 3 #[I64 lo]).alloc _
  have bm : Blk W0 M 3 #[I64 hi] := by rw [hW0, hM]; simpa using Blk.new (w.alloc (.cells #[I64 lo] 3)) 3 #[I64 hi]
  have cl : W0.cell? ⟨L, 0, none⟩ = some (I64 lo) := by simpa using bl.cell 0
  have cm : W0.cell? ⟨M, 0, none⟩ = some (I64 hi) := by simpa using bm.cell 0
  have hcon := win_contains W0 F A c l (hs.fr q0 (fun _ _ h => h)) hl lo hi L M cl cm
  have HL := Lib.hid hL
  have HM := Lib.hid hM
  have HW0 := Lib.hid hW0
  have HC := Lib.hid hcon
  clear hL hM hW0 hcon cl cm bl bm
  go_enter Tryz.func77, Tryz.ntmps77
  go_upto_region 1 with (fail)
  rw [← HM.out, ← HL.out, ← HW0.out]
  go_wp2_with fail
  refine HC.out.mono ?_
  rintro e w1 ⟨rfl, q1⟩
  go_wp2_with fail
  go_ret
  exact ⟨ret_eq (congrArg Value.bool (by unfold withinB; simp)), q0.tr q1⟩
set_option maxRecDepth 100000 in
theorem right_c1 (w : World) (F : Nat → Prop) (x : EntM) (hx : EntIn w F x) (hz : EntSz x) :
    Calls Tryz.prog 80 #[.agg (entA x)] w fun e w' => e = .returned (.bool (!entOkM x)) ∧ Nw w w' := by
  unfold entOkM
  obtain ⟨W0, hW0⟩ : ∃ W, W = w.alloc (.cells (entA x) 87) := ⟨_, rfl⟩
  have p0 : Nw w W0 := by rw [hW0]; exact (Fr.refl (fun _ => False) _).alloc _
  have b0 : Blk W0 w.heap.size 87 (entA x) := by rw [hW0]; exact Blk.new _ _ _
  have hcon := jent W0 F x (hx.nw p0) hz
  generalize entOk x.x = r at hcon ⊢
  have HW0 := Lib.hid hW0
  have HC := Lib.hid hcon
  clear hW0 hcon
  go_enter Tryz.func80, Tryz.ntmps80
  go_upto_region 1 with (fail)
  rw [← HW0.out]
  go_wp2_with (refine wpList_load_row rfl 87 _ rfl w.heap.size rfl 87 _ (0, 0) _ b0 Tryz.underlying87 rfl (by kernel_rfl) ?_)
  refine HC.out.mono ?_
  rintro e w1 ⟨rfl, q1⟩
  go_wp2_with fail
  go_ret
  exact ⟨rfl, p0.tr q1⟩
def entsR (w : World) (ok : EntM → Bool) (l : List EntM) (i : Value) (wx : World) : Prop := ∃ k : Nat, k ≤ l.length ∧ i = .int .i64 k ∧ (∀ j (h : j < l.length), j < k → ok l[j] = true) ∧ Nw w wx
set_option maxRecDepth 100000 in
theorem ents_index (w : World) (F : Nat → Prop) (A : Option Addr) (c : Nat) (l : List EntM) (hs : Sl w F A (entsC l)) (hl : l.length ≤ 1000000000) (he : ∀ e ∈ l, EntIn w F e) (hz : ∀ e ∈ l, EntSz e) :
    Calls Tryz.prog 155 #[.slice A l.length c, .func (.func 80) #[] #[]] w
      fun e w' => ∃ i : Int, e = .returned (.int .i64 i) ∧ (0 ≤ i ↔ l.all (entOkM) = false) ∧ Nw w w' := by
  have HE := Lib.hid he
  have HZ := Lib.hid hz
  clear he hz
  go_enter Tryz.func155, Tryz.ntmps155
  go_wp2_with fail
  go_loopw [8] (fun i wx => entsR w (entOkM) l i wx) (fun i _ => l.length - (intOf i).toNat)
  case atStart => exact ⟨0, Nat.zero_le _, rfl, fun _ _ h => by omega, Fr.refl _ _⟩
  case round =>
    obtain ⟨k, hk, rfl, hok, hq⟩ := hrel
    have HK := Lib.hid hok
    clear hok
    by_cases hlt : k < l.length
    · obtain ⟨b, o, rfl, _, _, hc⟩ := (hs.fr hq (fun _ _ h => h)).ent hlt
      have hcon := right_c1 wr F l[k] ((HE.out _ (List.getElem_mem hlt)).nw hq) (HZ.out _ (List.getElem_mem hlt))
      obtain ⟨p, hp⟩ : ∃ p, (entOkM) l[k] = p := ⟨_, rfl⟩
      have HP := Lib.hid hp
      simp only [hp] at hcon
      clear hp
      cases p
      · go_wp2_with (first | (refine wl_load_cells rfl 87 _ rfl b (o + k * 7) rfl _ _ hc Tryz.underlying87 rfl (by kernel_rfl) ?_) | (go_at_call 80; refine hcon.mono ?_; rintro e w1 ⟨rfl, q1⟩))
        go_ret
        refine ⟨k, rfl, ⟨fun _ => ?_, fun _ => by omega⟩, hq.tr q1⟩
        refine Bool.eq_false_iff.2 fun h => ?_
        have := List.all_eq_true.1 h _ (List.getElem_mem hlt)
        rw [HP.out] at this
        cases this
      · go_wp2_with (first | (refine wl_load_cells rfl 87 _ rfl b (o + k * 7) rfl _ _ hc Tryz.underlying87 rfl (by kernel_rfl) ?_) | (go_at_call 80; refine hcon.mono ?_; rintro e w1 ⟨rfl, q1⟩))
        go_roundw
        case rel =>
          refine ⟨k + 1, by omega, rfl, fun j hj hjk => ?_, hq.tr q1⟩
          by_cases hjk2 : j < k
          · exact HK.out j hj hjk2
          · obtain rfl : j = k := by omega
            exact HP.out
        case measure => simp [intOf]; omega
    · go_wp2_with fail
      go_ret
      have e : l.all (entOkM) = true := List.all_eq_true.2 fun x hx => by
        obtain ⟨j, hj, rfl⟩ := List.mem_iff_getElem.1 hx
        exact HK.out j hj (by omega)
      exact ⟨-1, rfl, ⟨fun h => by omega, fun h => by rw [e] at h; cases h⟩, hq⟩
set_option maxRecDepth 100000 in
theorem ents_contains (w : World) (F : Nat → Prop) (A : Option Addr) (c : Nat) (l : List EntM) (hs : Sl w F A (entsC l)) (hl : l.length ≤ 1000000000) (he : ∀ e ∈ l, EntIn w F e) (hz : ∀ e ∈ l, EntSz e) :
    Calls Tryz.prog 79 #[.slice A l.length c, .func (.func 80) #[] #[]] w fun e w' => e = .returned (.bool (!l.all (entOkM))) ∧ Nw w w' := by
  have hI := ents_index w F A c l hs hl he hz
  have HI := Lib.hid hI
  clear hI
  go_enter Tryz.func79, Tryz.ntmps79
  go_wp2_with fail
  refine HI.out.mono ?_
  rintro e w1 ⟨i, rfl, hii, q1⟩
  have hd : decide (0 ≤ i) = !l.all (entOkM) := by
    by_cases h0 : 0 ≤ i
    · rw [decide_eq_true h0, hii.1 h0]; rfl
    · have hn : l.all (entOkM) = true := by
        cases h : l.all (entOkM) with
        | true => rfl
        | false => exact (h0 (hii.2 h)).elim
      rw [decide_eq_false h0, hn]; rfl
  have HD := Lib.hid hd
  clear hd hii
  go_wp2_with fail
  go_ret
  exact ⟨congrArg (fun b => Ending.returned (.bool b)) HD.out, q1⟩
end Go.Proofs.YtippdjaakcgeoaaGreat

namespace Go.Proofs.YtippdjaakcgeoaaGreat
open Go Go.RowKit
set_option linter.unusedVariables false
set_option linter.unusedSimpArgs false
theorem bas_parts (x : BasM) : basOk x.x = (decide (0 ≤ x.index) && (decide (x.index ≤ 1073741824) && (decide (0 ≤ x.term) && (decide (x.term ≤ 1073741824) && cfgOk x.cfg.x)))) := by
  rw [Bool.eq_iff_iff]
  unfold basOk topOk
  simp only [Bool.and_eq_true, decide_eq_true_eq]
  constructor
  · rintro ⟨⟨a, b⟩, ⟨c, d⟩, e⟩; exact ⟨a, b, c, d, e⟩
  · rintro ⟨a, b, c, d, e⟩; exact ⟨⟨a, b⟩, ⟨c, d⟩, e⟩
set_option maxRecDepth 100000 in
set_option maxHeartbeats 4000000 in
theorem rbas (w : World) (F : Nat → Prop) (x : BasM) (hx : CfgIn w F x.cfg) (hz : CfgSz x.cfg) :
    Calls Tryz.prog 131 #[.agg (basA x)] w fun e w' => e = .returned (.bool (basOk x.x)) ∧ Nw w w' := by
  obtain ⟨W0, hW0⟩ : ∃ W, W = w.alloc (.cells (basA x) 47) := ⟨_, rfl⟩
  have p0 : Nw w W0 := by rw [hW0]; exact (Fr.refl (fun _ => False) _).alloc _
  have b0 : Blk W0 w.heap.size 47 (basA x) := by rw [hW0]; exact Blk.new _ _ _
  have k0 : W0.cell? ⟨w.heap.size, 0, none⟩ = some (I64 x.index) := by simpa using b0.cell 0
  have k1 : W0.cell? ⟨w.heap.size, 1, none⟩ = some (I64 x.term) := by simpa using b0.cell 1
  have kc : ∀ p u, ([.slice x.cfg.v.a x.cfg.v.l.length x.cfg.v.c, .slice x.cfg.o.a x.cfg.o.l.length x.cfg.o.c, .slice x.cfg.l.a x.cfg.l.l.length x.cfg.l.c, .slice x.cfg.w.a x.cfg.w.l.length x.cfg.w.c] : List Value)[p]? = some u → W0.cell? ⟨w.heap.size, 2 + p, none⟩ = some u := Blk.cells_in (l := [I64 x.index, I64 x.term, .slice x.cfg.v.a x.cfg.v.l.length x.cfg.v.c, .slice x.cfg.o.a x.cfg.o.l.length x.cfg.o.c, .slice x.cfg.l.a x.cfg.l.l.length x.cfg.l.c, .slice x.cfg.w.a x.cfg.w.l.length x.cfg.w.c]) b0 2 4
  have hcon := rcfg W0 F x.cfg (hx.nw p0) hz
  have hp := bas_parts x
  obtain ⟨r, hr⟩ : ∃ d, basOk x.x = d := ⟨_, rfl⟩
  obtain ⟨d, hd⟩ : ∃ d, cfgOk x.cfg.x = d := ⟨_, rfl⟩
  rw [hd] at hp hcon
  rw [hr] at hp ⊢
  have hno : r = true → (0 ≤ x.index ∧ x.index ≤ 1073741824) ∧ 0 ≤ x.term ∧ x.term ≤ 1073741824 := fun h => by
    rw [hp] at h
    simp only [Bool.and_eq_true, decide_eq_true_eq] at h
    exact ⟨⟨h.1, h.2.1⟩, h.2.2.1, h.2.2.2.1⟩
  have hyes : (0 ≤ x.index ∧ x.index ≤ 1073741824) → (0 ≤ x.term ∧ x.term ≤ 1073741824) → d = r := fun h1 h2 => by
    rw [hp, decide_eq_true h1.1, decide_eq_true h1.2, decide_eq_true h2.1, decide_eq_true h2.2]; simp
  have HW0 := Lib.hid hW0
  have HNO := Lib.hid hno
  have HYES := Lib.hid hyes
  have HC := Lib.hid hcon
  clear hW0 hno hyes hcon hp hr hd b0
  by_cases h1 : 0 ≤ x.index ∧ x.index ≤ 1073741824
  · obtain ⟨h1a, h1b⟩ := h1
    by_cases h2 : 0 ≤ x.term ∧ x.term ≤ 1073741824
    · obtain ⟨h2a, h2b⟩ := h2
      go_enter Tryz.func131, Tryz.ntmps131
      go_upto_region 1 with (fail)
      rw [← HW0.out]
      go_wp2_with (refine wl_cells_want (by kernel_rfl) 45 _ rfl w.heap.size 2 rfl [.slice x.cfg.v.a x.cfg.v.l.length x.cfg.v.c, .slice x.cfg.o.a x.cfg.o.l.length x.cfg.o.c, .slice x.cfg.l.a x.cfg.l.l.length x.cfg.l.c, .slice x.cfg.w.a x.cfg.w.l.length x.cfg.w.c] _ kc Tryz.underlying45 rfl (by kernel_rfl) ?_)
      refine HC.out.mono ?_
      rintro e w1 ⟨rfl, q1⟩
      go_wp2_with fail
      go_ret
      exact ⟨ret_eq (congrArg Value.bool (HYES.out ⟨h1a, h1b⟩ ⟨h2a, h2b⟩)), p0.tr q1⟩
    · have hrf : r = false := Bool.eq_false_iff.2 fun h => h2 (HNO.out h).2
      subst hrf
      by_cases h3 : 0 ≤ x.term
      · have h4 : ¬ x.term ≤ 1073741824 := fun h => h2 ⟨h3, h⟩
        clear h2
        go_enter Tryz.func131, Tryz.ntmps131
        go_upto_region 1 with (fail)
        rw [← HW0.out]
        go_wp2_with fail
        go_ret
        exact ⟨rfl, p0⟩
      · clear h2
        go_enter Tryz.func131, Tryz.ntmps131
        go_upto_region 1 with (fail)
        rw [← HW0.out]
        go_wp2_with fail
        go_ret
        exact ⟨rfl, p0⟩
  · have hrf : r = false := Bool.eq_false_iff.2 fun h => h1 (HNO.out h).1
    subst hrf
    by_cases h3 : 0 ≤ x.index
    · have h4 : ¬ x.index ≤ 1073741824 := fun h => h1 ⟨h3, h⟩
      clear h1
      go_enter Tryz.func131, Tryz.ntmps131
      go_upto_region 1 with (fail)
      rw [← HW0.out]
      go_wp2_with fail
      go_ret
      exact ⟨rfl, p0⟩
    · clear h1
      go_enter Tryz.func131, Tryz.ntmps131
      go_upto_region 1 with (fail)
      rw [← HW0.out]
      go_wp2_with fail
      go_ret
      exact ⟨rfl, p0⟩
/-- The numbers of a letter that are at most the top. -/
def topNs (x : LetM) : List Int := [x.term, x.index, x.logt, x.commit, x.size, x.at_]
def RRightR (V : World) (x : LetM) (i : Value) (wr : World) : Prop := ∃ k : Nat, k ≤ 6 ∧ i = .int .i64 k ∧ Nw V wr
def RRightE (V : World) (x : LetM) (i : Value) (wr : World) : Prop := ∃ k : Nat, k ≤ x.ents.l.length ∧ i = .int .i64 k ∧ (∀ j (h : j < x.ents.l.length), j < k → entOkM x.ents.l[j] = true) ∧ Nw V wr
theorem let_lin (x : LetM) (h : letOk x.x = true) : ((1 ≤ x.kind ∧ x.kind ≤ 8) ∧ (0 ≤ x.group ∧ x.group ≤ 4) ∧ (1 ≤ x.src ∧ x.src ≤ 5) ∧ (1 ≤ x.dst ∧ x.dst ≤ 5)) ∧ (0 ≤ x.tag ∧ x.tag ≤ 4611686018427387903) ∧ x.ents.l.length ≤ 30 ∧ x.bytes.l.length ≤ 131072 := by
  have hs := (letOk_iff _).1 h
  obtain ⟨⟨⟨h8, h9⟩, h10, h11⟩, _, h7, ⟨h12, h15⟩, h14, h13⟩ := hs
  have h12 : (x.ents.l.map EntM.x).length ≤ 30 := h12
  rw [List.length_map] at h12
  exact ⟨⟨h8, h9, h10, h11⟩, h7, h12, h13⟩
theorem let_tops (x : LetM) (h : letOk x.x = true) : ∀ n ∈ topNs x, 0 ≤ n ∧ n ≤ 1073741824 := by
  have hs := ((letOk_iff _).1 h).nums
  obtain ⟨⟨h1, h2⟩, ⟨h3, h4⟩, h5, h6⟩ := hs
  intro n hn
  simp only [topNs, List.mem_cons, List.not_mem_nil, or_false] at hn
  rcases hn with rfl | rfl | rfl | rfl | rfl | rfl
  · exact h1
  · exact h2
  · exact h3
  · exact h4
  · exact h5
  · exact h6
theorem let_base (x : LetM) (h : letOk x.x = true) : basOk x.base.x = true := ((letOk_iff _).1 h).base
theorem let_ents (x : LetM) (h : letOk x.x = true) : ∀ j (hj : j < x.ents.l.length), entOkM x.ents.l[j] = true := fun j hj => ((letOk_iff _).1 h).ents.2 _ (List.mem_map.2 ⟨_, List.getElem_mem hj, rfl⟩)
theorem let_all (x : LetM) (h1 : ∀ n ∈ topNs x, 0 ≤ n ∧ n ≤ 1073741824) (h2 : ((1 ≤ x.kind ∧ x.kind ≤ 8) ∧ (0 ≤ x.group ∧ x.group ≤ 4) ∧ (1 ≤ x.src ∧ x.src ≤ 5) ∧ (1 ≤ x.dst ∧ x.dst ≤ 5)) ∧ (0 ≤ x.tag ∧ x.tag ≤ 4611686018427387903) ∧ x.ents.l.length ≤ 30 ∧ x.bytes.l.length ≤ 131072)
    (h3 : basOk x.base.x = true) (h4 : ∀ j (hj : j < x.ents.l.length), entOkM x.ents.l[j] = true) : letOk x.x = true := by
  obtain ⟨⟨h8, h9, h10, h11⟩, h7, h12, h13⟩ := h2
  refine (letOk_iff _).2 ⟨⟨⟨h8, h9⟩, h10, h11⟩, ⟨⟨h1 _ ?_, h1 _ ?_⟩, ⟨h1 _ ?_, h1 _ ?_⟩, h1 _ ?_, h1 _ ?_⟩, h7, ⟨by show (x.ents.l.map EntM.x).length ≤ 30; rw [List.length_map]; exact h12, fun e he => ?_⟩, h3, h13⟩
  rotate_right
  · obtain ⟨y, hy, rfl⟩ := List.mem_map.1 he
    obtain ⟨j, hj, rfl⟩ := List.mem_iff_getElem.1 hy
    exact h4 j hj
  all_goals simp [topNs]
set_option maxRecDepth 100000 in
set_option maxHeartbeats 16000000 in
theorem rRight_any (w : World) (F : Nat → Prop) (x : LetM) (hx : LetIn w F x) (hz : LetSz x) :
    Calls Tryz.prog 63 #[.agg (letA x)] w fun e w' => e = .returned (.bool (letOk x.x)) ∧ Nw w w' := by
  obtain ⟨X, hX⟩ : ∃ X, X = w.heap.size := ⟨_, rfl⟩
  obtain ⟨W0, hW0⟩ : ∃ W, W = w.alloc (.cells (letA x) 50) := ⟨_, rfl⟩
  have p0 : Nw w W0 := by rw [hW0]; exact (Fr.refl (fun _ => False) _).alloc _
  have b0 : Blk W0 X 50 (letA x) := by rw [hW0, hX]; exact Blk.new _ _ _
  obtain ⟨L, hL⟩ : ∃ L, L = W0.heap.size := ⟨_, rfl⟩
  obtain ⟨V, hV⟩ : ∃ V, V = W0.alloc (.cells #[I64 x.term, I64 x.index, I64 x.logt, I64 x.commit, I64 x.size, I64 x.at_] 3) := ⟨_, rfl⟩
  have p1 : Nw W0 V := by rw [hV]; exact (Fr.refl (fun _ => False) _).alloc _
  have sl : Sl V (· = L) (some ⟨L, 0, none⟩) (intsC (topNs x)) := by rw [hV]; exact sl_new W0 3 (intsC (topNs x)) _ hL.symm
  have b1 := b0.fr p1 (fun h => h)
  have pV := p0.tr p1
  have htl : (topNs x).length = 6 := rfl
  have hlin := let_lin x
  have htop := let_tops x
  have hbas := let_base x
  have hent := let_ents x
  have hall := let_all x
  obtain ⟨r, hr⟩ : ∃ r, letOk x.x = r := ⟨_, rfl⟩
  rw [hr] at hlin htop hbas hent hall ⊢
  obtain ⟨ns, hns⟩ : ∃ ns, topNs x = ns := ⟨_, rfl⟩
  rw [hns] at sl htl htop hall
  have hzb : ∀ w1, Nw V w1 → Calls Tryz.prog 131 #[.agg #[I64 x.base.index, I64 x.base.term, .slice x.base.cfg.v.a x.base.cfg.v.l.length x.base.cfg.v.c, .slice x.base.cfg.o.a x.base.cfg.o.l.length x.base.cfg.o.c, .slice x.base.cfg.l.a x.base.cfg.l.l.length x.base.cfg.l.c, .slice x.base.cfg.w.a x.base.cfg.w.l.length x.base.cfg.w.c]] w1 fun e w' => e = .returned (.bool (basOk x.base.x)) ∧ Nw w1 w' := fun w1 f => rbas w1 F x.base (hx.cfg.nw (pV.tr f)) hz.cfg
  obtain ⟨db, hdb⟩ : ∃ d, basOk x.base.x = d := ⟨_, rfl⟩
  simp only [hdb] at hzb
  rw [hdb] at hbas hall
  have hkd := hx.kind
  have hel : x.ents.l.length ≤ 1000000 := hz.ents
  have hbl : x.bytes.l.length ≤ 1000000 := hz.bytes
  have HX := Lib.hid hX
  have HW0 := Lib.hid hW0
  have HL := Lib.hid hL
  have HV := Lib.hid hV
  have HLIN := Lib.hid hlin
  have HTOP := Lib.hid htop
  have HBAS := Lib.hid hbas
  have HENT := Lib.hid hent
  have HALL := Lib.hid hall
  have HZB := Lib.hid hzb
  have HTL := Lib.hid htl
  have HEI := Lib.hid hx.ents
  have HEE := Lib.hid hx.each
  have HEZ := Lib.hid hz.each
  have k4 : W0.cell? ⟨X, 4, none⟩ = some (I64 x.term) := by simpa using b0.cell 4
  have k5 : W0.cell? ⟨X, 5, none⟩ = some (I64 x.index) := by simpa using b0.cell 5
  have k6 : W0.cell? ⟨X, 6, none⟩ = some (I64 x.logt) := by simpa using b0.cell 6
  have k7 : W0.cell? ⟨X, 7, none⟩ = some (I64 x.commit) := by simpa using b0.cell 7
  have k16 : W0.cell? ⟨X, 16, none⟩ = some (I64 x.size) := by simpa using b0.cell 16
  have k17 : W0.cell? ⟨X, 17, none⟩ = some (I64 x.at_) := by simpa using b0.cell 17
  clear hX hW0 hL hV hlin htop hbas hent hall hzb htl hdb hns hr hx hz b0
  go_enter Tryz.func63, Tryz.ntmps63
  go_upto_region 1 with (fail)
  rw [← HX.out, ← HW0.out]
  go_upto_region 2 with (fail)
  rw [← HL.out, ← HV.out]
  clear k4 k5 k6 k7 k16 k17
  go_wp2_with fail
  go_loopw [4] (fun i wr => RRightR V x i wr ∧ ∀ j, j < (intOf i).toNat → ∀ (h : j < ns.length), 0 ≤ ns[j] ∧ ns[j] ≤ 1073741824) (fun i _ => 6 - (intOf i).toNat)
  case atStart => exact ⟨⟨0, by omega, rfl, Fr.refl _ _⟩, fun j hj => by simp [intOf] at hj⟩
  case round =>
    obtain ⟨⟨k, hk, rfl, hq⟩, hb⟩ := hrel
    have HB : Hid (∀ j, j < k → ∀ (h : j < ns.length), 0 ≤ ns[j] ∧ ns[j] ≤ 1073741824) := Lib.hid (fun j hj h => hb j (by simpa [intOf] using hj) h)
    clear hb
    by_cases hlt : k < 6
    · have hkn : k < ns.length := by rw [HTL.out]; exact hlt
      obtain ⟨b, o', hbo, _, p0c⟩ := (sl.fr hq (fun _ _ h => h)).get hkn
      injection hbo with hbo
      injection hbo with e1 e2 _
      subst e1
      subst e2
      simp only [Nat.zero_add] at p0c
      have hnn := fun h => HTOP.out h ns[k] (List.getElem_mem hkn)
      have hnx : (0 ≤ ns[k] ∧ ns[k] ≤ 1073741824) → ∀ j, j < k + 1 → ∀ (h : j < ns.length), 0 ≤ ns[j] ∧ ns[j] ≤ 1073741824 := fun h0 j hj h => by
        by_cases e : j < k
        · exact HB.out j e h
        · obtain rfl : j = k := by omega
          exact h0
      obtain ⟨n, hn⟩ : ∃ n, ns[k] = n := ⟨_, rfl⟩
      rw [hn] at p0c hnn hnx
      have HNN := Lib.hid hnn
      have HNX := Lib.hid hnx
      have hi0 : (k : Int) < 6 := by omega
      have P0 := fun (m : Later wr) => m.cell p0c
      clear hnn hnx hn
      by_cases h1 : n < 0
      · have g1 : decide (n < 0) = true := decide_eq_true h1
        go_wp2_with fail
        go_ret
        exact ⟨ret_eq (congrArg Value.bool (Bool.eq_false_iff.2 fun h => by have := HNN.out h; omega).symm), (pV.tr hq)⟩
      · have g1 : decide (n < 0) = false := decide_eq_false h1
        have h1' : 0 ≤ n := by omega
        by_cases h2 : 1073741824 < n
        · have g2 : decide (1073741824 < n) = true := decide_eq_true h2
          go_wp2_with fail
          go_ret
          exact ⟨ret_eq (congrArg Value.bool (Bool.eq_false_iff.2 fun h => by have := HNN.out h; omega).symm), (pV.tr hq)⟩
        · have g2 : decide (1073741824 < n) = false := decide_eq_false h2
          have h2' : n ≤ 1073741824 := by omega
          go_wp2_with fail
          go_roundw
          case rel =>
            refine ⟨⟨k + 1, by omega, by go_num, hq⟩, fun j hj h => HNX.out ⟨h1', h2'⟩ j (by simp [intOf] at hj; omega) h⟩
          case measure => simp [intOf]; omega
    · obtain rfl : k = 6 := by omega
      have hB2 : ∀ n ∈ ns, 0 ≤ n ∧ n ≤ 1073741824 := fun n hn => by
        obtain ⟨j, hj, rfl⟩ := List.mem_iff_getElem.1 hn
        exact HB.out j (by rw [HTL.out] at hj; exact hj) hj
      have HB2 := Lib.hid hB2
      have b2 := b1.fr hq (fun h => h)
      have b1x := b1
      have k18 : wr.cell? ⟨X, 18, none⟩ = some (I64 x.tag) := by simpa using b2.cell 18
      have k0 : wr.cell? ⟨X, 0, none⟩ = some (U8V x.kind) := by simpa using b2.cell 0
      have k1 : wr.cell? ⟨X, 1, none⟩ = some (I64 x.group) := by simpa using b2.cell 1
      have k2 : wr.cell? ⟨X, 2, none⟩ = some (I64 x.src) := by simpa using b2.cell 2
      have k3 : wr.cell? ⟨X, 3, none⟩ = some (I64 x.dst) := by simpa using b2.cell 3
      have k9 : wr.cell? ⟨X, 9, none⟩ = some (.slice x.ents.a x.ents.l.length x.ents.c) := by simpa using b2.cell 9
      have k19 : wr.cell? ⟨X, 19, none⟩ = some (.slice x.bytes.a x.bytes.l.length x.bytes.c) := by simpa using b2.cell 19
      clear hB2 HB b1 sl
      by_cases hlx : ((1 ≤ x.kind ∧ x.kind ≤ 8) ∧ (0 ≤ x.group ∧ x.group ≤ 4) ∧ (1 ≤ x.src ∧ x.src ≤ 5) ∧ (1 ≤ x.dst ∧ x.dst ≤ 5)) ∧ (0 ≤ x.tag ∧ x.tag ≤ 4611686018427387903)
      case neg =>
        have hrf : r = false := Bool.eq_false_iff.2 fun h => hlx ⟨(HLIN.out h).1, (HLIN.out h).2.1⟩
        have HRF := Lib.hid hrf
        clear hrf
        by_cases hl1 : 0 ≤ x.tag ∧ x.tag ≤ 4611686018427387903
        case neg =>
          clear hlx
          by_cases hl2 : 0 ≤ x.tag
          · have hl3 : 4611686018427387903 < x.tag := by omega
            clear hl1
            go_wp2_with fail
            go_ret
            exact ⟨ret_eq (congrArg Value.bool HRF.out.symm), pV.tr hq⟩
          · clear hl1
            go_wp2_with fail
            go_ret
            exact ⟨ret_eq (congrArg Value.bool HRF.out.symm), pV.tr hq⟩
        have hl1a := hl1.1
        have hl1b := hl1.2
        have hlz : x.kind < 1 ∨ 8 < x.kind ∨ x.group < 0 ∨ 4 < x.group ∨ x.src < 1 ∨ 5 < x.src ∨ x.dst < 1 ∨ 5 < x.dst := by omega
        clear hlx hl1
        go_upto_if 82 with (fail)
        all_goals (rcases hlz with h | h | h | h | h | h | h | h <;> (go_wp2_with fail; try omega) <;> (try (go_ret; exact ⟨ret_eq (congrArg Value.bool HRF.out.symm), pV.tr hq⟩)))
      obtain ⟨⟨⟨l1, l2⟩, ⟨l3, l4⟩, ⟨l5, l6⟩, l7, l8⟩, l9, l10⟩ := hlx
      have t1 : decide (x.tag < 0) = false := decide_eq_false (by omega)
      have t2 : decide (4611686018427387903 < x.tag) = false := decide_eq_false (by omega)
      have t3 : decide (x.kind < 1) = false := decide_eq_false (by omega)
      have t4 : decide (8 < x.kind) = false := decide_eq_false (by omega)
      have t5 : decide (x.group < 0) = false := decide_eq_false (by omega)
      have t6 : decide (4 < x.group) = false := decide_eq_false (by omega)
      have t7 : decide (x.src < 1) = false := decide_eq_false (by omega)
      have t8 : decide (5 < x.src) = false := decide_eq_false (by omega)
      have t9 : decide (x.dst < 1) = false := decide_eq_false (by omega)
      have t10 : decide (5 < x.dst) = false := decide_eq_false (by omega)
      by_cases h30 : x.ents.l.length ≤ 30
      case neg =>
        have h30i : (30 : Int) < (x.ents.l.length : Int) := by omega
        go_wp2_with fail
        all_goals (go_ret; exact ⟨ret_eq (congrArg Value.bool (Bool.eq_false_iff.2 fun h => by have := HLIN.out h; omega).symm), pV.tr hq⟩)
      have h30i : (x.ents.l.length : Int) ≤ 30 := by omega
      have h30d : decide ((30 : Int) < (x.ents.l.length : Int)) = false := decide_eq_false (by omega)
      by_cases h13 : x.bytes.l.length ≤ 131072
      case neg =>
        have h13i : (131072 : Int) < (x.bytes.l.length : Int) := by omega
        go_wp2_with fail
        all_goals (go_ret; exact ⟨ret_eq (congrArg Value.bool (Bool.eq_false_iff.2 fun h => by have := HLIN.out h; omega).symm), pV.tr hq⟩)
      have h13i : (x.bytes.l.length : Int) ≤ 131072 := by omega
      have h13d : decide ((131072 : Int) < (x.bytes.l.length : Int)) = false := decide_eq_false (by omega)
      go_wp2_with (refine wl_cells_want (by kernel_rfl) 47 _ rfl X 10 rfl [I64 x.base.index, I64 x.base.term, .slice x.base.cfg.v.a x.base.cfg.v.l.length x.base.cfg.v.c, .slice x.base.cfg.o.a x.base.cfg.o.l.length x.base.cfg.o.c, .slice x.base.cfg.l.a x.base.cfg.l.l.length x.base.cfg.l.c, .slice x.base.cfg.w.a x.base.cfg.w.l.length x.base.cfg.w.c] _ (Blk.cells_in (l := [U8V x.kind, I64 x.group, I64 x.src, I64 x.dst, I64 x.term, I64 x.index, I64 x.logt, I64 x.commit, .bool x.ok, .slice x.ents.a x.ents.l.length x.ents.c, I64 x.base.index, I64 x.base.term, .slice x.base.cfg.v.a x.base.cfg.v.l.length x.base.cfg.v.c, .slice x.base.cfg.o.a x.base.cfg.o.l.length x.base.cfg.o.c, .slice x.base.cfg.l.a x.base.cfg.l.l.length x.base.cfg.l.c, .slice x.base.cfg.w.a x.base.cfg.w.l.length x.base.cfg.w.c, I64 x.size, I64 x.at_, I64 x.tag, .slice x.bytes.a x.bytes.l.length x.bytes.c]) b2 10 6) Tryz.underlying47 rfl (by kernel_rfl) ?_)
      have hlin : ((1 ≤ x.kind ∧ x.kind ≤ 8) ∧ (0 ≤ x.group ∧ x.group ≤ 4) ∧ (1 ≤ x.src ∧ x.src ≤ 5) ∧ (1 ≤ x.dst ∧ x.dst ≤ 5)) ∧ (0 ≤ x.tag ∧ x.tag ≤ 4611686018427387903) ∧ x.ents.l.length ≤ 30 ∧ x.bytes.l.length ≤ 131072 := by omega
      have HL2 := Lib.hid hlin
      clear hlin
      refine (HZB.out _ hq).mono ?_
      rintro e w2 ⟨rfl, q2⟩
      have Q2 := hq.tr q2
      cases db with
      | false =>
        go_wp2_with fail
        go_ret
        exact ⟨ret_eq (congrArg Value.bool (Bool.eq_false_iff.2 fun h => by have := HBAS.out h; cases this).symm), pV.tr Q2⟩
      | true =>
        have b3 := b2.fr q2 (fun h => h)
        have HALL2 := Lib.hid (HALL.out HB2.out HL2.out rfl)
        clear HALL b2 k18 k0 k1 k2 k3 k9 k19
        go_wp2_with fail
        go_loopw [5] (fun i wr => RRightE V x i wr) (fun i _ => x.ents.l.length - (intOf i).toNat)
        case atStart => exact ⟨0, Nat.zero_le _, rfl, fun _ _ h => by omega, Q2⟩
        case round =>
          clear hq q2
          obtain ⟨k, hk, rfl, hb, hq⟩ := hrel
          have HB := Lib.hid hb
          clear hb
          have b4 : Blk wr X 50 #[U8V x.kind, I64 x.group, I64 x.src, I64 x.dst, I64 x.term, I64 x.index, I64 x.logt, I64 x.commit, .bool x.ok, .slice x.ents.a x.ents.l.length x.ents.c, I64 x.base.index, I64 x.base.term, .slice x.base.cfg.v.a x.base.cfg.v.l.length x.base.cfg.v.c, .slice x.base.cfg.o.a x.base.cfg.o.l.length x.base.cfg.o.c, .slice x.base.cfg.l.a x.base.cfg.l.l.length x.base.cfg.l.c, .slice x.base.cfg.w.a x.base.cfg.w.l.length x.base.cfg.w.c, I64 x.size, I64 x.at_, I64 x.tag, .slice x.bytes.a x.bytes.l.length x.bytes.c] := b1x.fr hq (fun h => h)
          have kk9 : wr.cell? ⟨X, 9, none⟩ = some (.slice x.ents.a x.ents.l.length x.ents.c) := by simpa using b4.cell 9
          by_cases hlt : k < x.ents.l.length
          · obtain ⟨b, o, hA, _, _, hc⟩ := ((HEI.out.nw (pV.tr hq)).sl).ent hlt
            have hi0 : (k : Int) < (x.ents.l.length : Int) := by omega
            have hei := (HEE.out _ (List.getElem_mem hlt)).nw (pV.tr hq)
            have hez := HEZ.out _ (List.getElem_mem hlt)
            have hnx : entOkM x.ents.l[k] = true → RRightE V x (.int .i64 ((k : Int) + 1)) wr := fun h0 => ⟨k + 1, hlt, by go_num, fun j hj hjk => by
              by_cases e : j < k
              · exact HB.out j hj e
              · obtain rfl : j = k := by omega
                exact h0, hq⟩
            have hno : r = true → entOkM x.ents.l[k] = true := fun h => HENT.out h k hlt
            obtain ⟨y, hy⟩ : ∃ y, x.ents.l[k] = y := ⟨_, rfl⟩
            rw [hy] at hc hei hez hnx hno
            have hcon := rent wr F y hei hez
            have hcon : Calls Tryz.prog 132 #[.agg #[I64 y.term, U8V y.kind, .slice y.cmd.a y.cmd.l.length y.cmd.c, .slice y.cfg.v.a y.cfg.v.l.length y.cfg.v.c, .slice y.cfg.o.a y.cfg.o.l.length y.cfg.o.c, .slice y.cfg.l.a y.cfg.l.l.length y.cfg.l.c, .slice y.cfg.w.a y.cfg.w.l.length y.cfg.w.c]] wr fun e w' => e = .returned (.bool (entOkM y)) ∧ Nw wr w' := hcon
            obtain ⟨de, hde⟩ : ∃ d, entOkM y = d := ⟨_, rfl⟩
            rw [hde] at hcon hnx hno
            have HC := Lib.hid hcon
            have HNX := Lib.hid hnx
            have HNO := Lib.hid hno
            rw [hA] at kk9
            clear hcon hnx hno hei hez hy hde hA
            go_wp2_with (refine wl_load_cells rfl 87 _ rfl b (o + k * 7) rfl _ _ hc Tryz.underlying87 rfl (by kernel_rfl) ?_)
            refine HC.out.mono ?_
            rintro e w5 ⟨rfl, q5⟩
            cases de with
            | false =>
              go_wp2_with fail
              go_ret
              exact ⟨ret_eq (congrArg Value.bool (Bool.eq_false_iff.2 fun h => by have := HNO.out h; cases this).symm), pV.tr (hq.tr q5)⟩
            | true =>
              go_wp2_with fail
              go_roundw
              case rel =>
                obtain ⟨kk, a1, a2, a3, a4⟩ := HNX.out (by first | rfl | trivial)
                first | exact ⟨kk, a1, a2, a3, hq.tr q5⟩ | ((repeat apply Exists.intro); exact ⟨⟨kk, a1, a2, a3, hq.tr q5⟩, rfl⟩)
              case measure => simp [intOf]; omega
          · obtain rfl : x.ents.l.length = k := by omega
            go_wp2_with fail
            go_ret
            exact ⟨ret_eq (congrArg Value.bool (HALL2.out (fun j hj => HB.out j hj hj)).symm), pV.tr hq⟩
end Go.Proofs.YtippdjaakcgeoaaGreat

namespace Go.Proofs.YtippdjaakcgeoaaGreat
open Go Go.RowKit
set_option linter.unusedVariables false
set_option linter.unusedSimpArgs false
theorem EntOwn.zero (w0 w : World) : EntOwn w0 w entMZ := by
  have h : ∀ k, ¬ inA (none : Option Addr) k := inA_none
  exact ⟨⟨by decide, by decide⟩, ⟨Own.nil _ _ _, fun k hk => (h k hk).elim⟩, ⟨⟨Own.nil _ _ _, fun k hk => (h k hk).elim⟩, ⟨Own.nil _ _ _, fun k hk => (h k hk).elim⟩, ⟨Own.nil _ _ _, fun k hk => (h k hk).elim⟩, ⟨Own.nil _ _ _, fun k hk => (h k hk).elim⟩, fun k _ hk => (h k hk).elim, fun k _ hk => (h k hk).elim, fun k _ hk => (h k hk).elim, fun k _ hk => (h k hk).elim, fun k _ hk => (h k hk).elim, fun k _ hk => (h k hk).elim⟩⟩
end Go.Proofs.YtippdjaakcgeoaaGreat

namespace Go.Proofs.YtippdjaakcgeoaaGreat
open Go Go.RowKit
set_option linter.unusedVariables false
set_option linter.unusedSimpArgs false
theorem CfgOwn.zero (w0 w : World) : CfgOwn w0 w cfgMZ := (EntOwn.zero w0 w).cfg
end Go.Proofs.YtippdjaakcgeoaaGreat

namespace Go.Proofs.YtippdjaakcgeoaaGreat
open Go Go.RowKit
set_option linter.unusedVariables false
set_option linter.unusedSimpArgs false
/-- The document's reader (whatever the mark says: the texts of orders mark two kinds). -/
def IsQR (b : Bool) (w : World) (F : Nat → Prop) (g : Nat) (s : Rd) : Prop := IsRR w F g s
def QToR (b : Bool) (w : World) (F : Nat → Prop) (g : Nat) (s : Rd) (w' : World) : Prop := IsQR b w' F g s ∧ Fr (· = g) w w'
theorem IsQR.fr {b : Bool} {w w' : World} {F S : Nat → Prop} {g : Nat} {s : Rd} (h : IsQR b w F g s) (hf : Fr S w w') (hg : ¬ S g) (hd : ∀ k, F k → ¬ S k) : IsQR b w' F g s := IsRR.fr h hf hg hd
/-- What stands: the reader, the variable, and whatever else is to stay. -/
structure RStR (b : Bool) (w0 wr : World) (F : Nat → Prop) (g X : Nat) (t : TypeId) (K : World → Prop) (s : Rd) (cs : Array Value) : Prop where
  rd : IsQR b wr F g s
  x : Blk wr X t cs
  k : K wr
  fr : Fr (· = g) w0 wr
  gX : g ≠ X
  FX : ¬ F X
  new : w0.heap.size ≤ X
  st : ∀ a c, Fr (fun k => k = g ∨ k = X) a c → K a → K c
section
variable {b : Bool} {w0 wr w' : World} {F : Nat → Prop} {g X : Nat} {t : TypeId} {K K' : World → Prop} {s s' : Rd} {cs : Array Value}
theorem RStR.call (h : RStR b w0 wr F g X t K s cs) (q : QToR b wr F g s' w') : RStR b w0 w' F g X t K s' cs :=
  ⟨q.1, h.x.fr q.2 (fun e => h.gX e.symm), h.st _ _ (q.2.mono fun k hk => .inl (.inl hk)) h.k, h.fr.tr q.2, h.gX, h.FX, h.new, h.st⟩
theorem RStR.set_ (h : RStR b w0 wr F g X t K s cs) (j : Nat) (u : Value) : RStR b w0 (wr.setCell ⟨X, j, none⟩ u) F g X t K s (cs.setIfInBounds j u) :=
  have q : Fr (· = X) wr (wr.setCell ⟨X, j, none⟩ u) := (Fr.refl (· = X) wr).setCell (p := ⟨X, j, none⟩) (.inl rfl) u
  ⟨h.rd.fr q h.gX (fun k hk e => h.FX (e ▸ hk)), h.x.set_ j u, h.st _ _ (q.mono fun k hk => .inl (.inr hk)) h.k, h.fr.trans q (fun k hk => .inr (hk ▸ h.new)), h.gX, h.FX, h.new, h.st⟩
theorem RStR.nw (h : RStR b w0 wr F g X t K s cs) (q : Nw wr w') : RStR b w0 w' F g X t K s cs :=
  ⟨h.rd.fr q (fun h => h) (fun _ _ h => h), h.x.fr q (fun h => h), h.st _ _ (Nw.on q) h.k, h.fr.tr (Nw.on q), h.gX, h.FX, h.new, h.st⟩
/-- Another base. -/
theorem RStR.base {w1 : World} (h : RStR b w0 wr F g X t K s cs) (q : Fr (· = g) w1 w0) : RStR b w1 wr F g X t K s cs :=
  ⟨h.rd, h.x, h.k, q.tr h.fr, h.gX, h.FX, Nat.le_trans q.size h.new, h.st⟩
end
end Go.Proofs.YtippdjaakcgeoaaGreat

namespace Go.Proofs.YtippdjaakcgeoaaGreat
open Go Go.RowKit
set_option linter.unusedVariables false
set_option linter.unusedSimpArgs false
/-- The head of a letter: the first number into a cell of its own, the others into the letter's. -/
def HeadAt (kb X : Nat) (t : TypeId) (cs : Array Value) (os : List Nat) (l : List Int) (w : World) : Prop :=
  Blk w kb 3 #[I64 (l.getD 0 0)] ∧ Blk w X t (setNs cs (os.take (l.length - 1)) l.tail)
theorem HeadAt.step {kb X : Nat} {t : TypeId} {cs : Array Value} {os : List Nat} (hne : kb ≠ X) (ho : ∀ o ∈ os, o < cs.size) : ∀ k (h : k < ((kb, 0) :: os.map (fun o => (X, o))).length) l wr, l.length = k → HeadAt kb X t cs os l wr →
    (∃ v, wr.cell? ⟨((kb, 0) :: os.map (fun o => (X, o)))[k].1, ((kb, 0) :: os.map (fun o => (X, o)))[k].2, none⟩ = some v) ∧ wr.frozen? ⟨((kb, 0) :: os.map (fun o => (X, o)))[k].1, ((kb, 0) :: os.map (fun o => (X, o)))[k].2, none⟩ = false ∧
      ∀ z, HeadAt kb X t cs os (l ++ [z]) (wr.setCell ⟨((kb, 0) :: os.map (fun o => (X, o)))[k].1, ((kb, 0) :: os.map (fun o => (X, o)))[k].2, none⟩ (I64 z)) := by
  intro k h l wr hl hh
  cases k with
  | zero =>
    obtain rfl := List.length_eq_zero_iff.1 hl
    refine ⟨⟨_, hh.1.cell 0⟩, hh.1.frozen 0, fun z => ⟨hh.1.set_ 0 (I64 z), hh.2.far hne.symm _⟩⟩
  | succ k =>
    obtain ⟨a, l, rfl⟩ : ∃ a l', l = a :: l' := by
      cases l with
      | nil => cases hl
      | cons a l => exact ⟨a, l, rfl⟩
    have hk : k < os.length := by simpa using h
    have hl' : l.length = k := by simpa using hl
    have hok := ho _ (List.getElem_mem hk)
    have e : ((kb, 0) :: os.map (fun o => (X, o)))[k + 1] = (X, os[k]) := by simp
    rw [e]
    have h2 : Blk wr X t (setNs cs (os.take k) l) := by rw [← hl']; exact hh.2
    refine ⟨⟨_, by rw [h2.cell]; rw [Array.getElem?_eq_getElem (by rw [setNs_size]; exact hok)]⟩, h2.frozen _, fun z => ⟨hh.1.far hne _, ?_⟩⟩
    have h3 := h2.set_ os[k] (I64 z)
    rw [← setNs_snoc _ _ (by rw [List.length_take]; omega), ← List.take_succ_eq_append_getElem hk] at h3
    show Blk _ X t (setNs cs (os.take ((a :: l ++ [z]).length - 1)) (l ++ [z]))
    rw [show (a :: l ++ [z]).length - 1 = k + 1 by simp; omega]
    exact h3
end Go.Proofs.YtippdjaakcgeoaaGreat
