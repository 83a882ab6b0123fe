/- Letters: which entries are right, by the program, by the document; numbers within bounds. (Printed by genrgb.py.) -/
import Derived.Test.YtippdjaakcgeoaaRgA
namespace Go.Proofs.Ytippdjaakcgeoaa
open Go Go.RowKit
set_option linter.unusedVariables false
set_option linter.unusedSimpArgs false
set_option maxRecDepth 100000 in
theorem jwithin_any (w : World) (b c : Int) : Calls Try.prog 76 #[I64 b, I64 c] w fun e w' => e = .returned (.bool (decide (0 ≤ b ∧ b ≤ c))) ∧ w = w' := by
  by_cases h1 : 0 ≤ b
  · by_cases h2 : b ≤ c
    · have e : decide (0 ≤ b ∧ b ≤ c) = true := decide_eq_true ⟨h1, h2⟩
      rw [e]
      go_enter Try.func76, Try.ntmps76
      go_wp2_with fail
      go_ret
      exact ⟨rfl, rfl⟩
    · have e : decide (0 ≤ b ∧ b ≤ c) = false := decide_eq_false fun h => h2 h.2
      rw [e]
      go_enter Try.func76, Try.ntmps76
      go_wp2_with fail
      go_ret
      exact ⟨by simp, rfl⟩
  · have e : decide (0 ≤ b ∧ b ≤ c) = false := decide_eq_false fun h => h1 h.1
    rw [e]
    go_enter Try.func76, Try.ntmps76
    go_wp2_with fail
    go_ret
    exact ⟨by simp, rfl⟩
set_option maxRecDepth 100000 in
set_option maxHeartbeats 4000000 in
theorem jent (w : World) (F : Nat → Prop) (x : EntM) (hx : EntIn w F x) (hz : EntSz x) : Calls Try.prog 51 #[.agg (entA x)] w fun e w' => e = .returned (.bool (entOk x.x)) ∧ Nw w w' := by
  obtain ⟨W0, hW0⟩ : ∃ W, W = w.alloc (.cells (entA x) 60) := ⟨_, rfl⟩
  have p0 : Nw w W0 := by rw [hW0]; exact (Fr.refl (fun _ => False) _).alloc _
  have b0 : Blk W0 w.heap.size 60 (entA x) := by rw [hW0]; exact Blk.new _ _ _
  have k0 : W0.cell? ⟨w.heap.size, 0, none⟩ = some (I64 x.term) := by simpa using b0.cell 0
  have k1 : W0.cell? ⟨w.heap.size, 1, none⟩ = some (U8V x.kind) := by simpa using b0.cell 1
  have k2 : W0.cell? ⟨w.heap.size, 2, none⟩ = some (.slice x.cmd.a x.cmd.l.length x.cmd.c) := by simpa using b0.cell 2
  have k3 : W0.cell? ⟨w.heap.size, 3, none⟩ = some (.slice x.cfg.v.a x.cfg.v.l.length x.cfg.v.c) := by simpa using b0.cell 3
  have k4 : W0.cell? ⟨w.heap.size, 4, none⟩ = some (.slice x.cfg.o.a x.cfg.o.l.length x.cfg.o.c) := by simpa using b0.cell 4
  have k5 : W0.cell? ⟨w.heap.size, 5, none⟩ = some (.slice x.cfg.l.a x.cfg.l.l.length x.cfg.l.c) := by simpa using b0.cell 5
  have k6 : W0.cell? ⟨w.heap.size, 6, none⟩ = some (.slice x.cfg.w.a x.cfg.w.l.length x.cfg.w.c) := by simpa using b0.cell 6
  have he := fun w' => jempty w' F x.cfg hz.cfg
  have hc : ∀ w', Nw W0 w' → _ := fun w' f => jcfg w' F x.cfg (hx.cfg.nw (p0.tr f)) hz.cfg
  have hok : entOk x.x = (topOk x.term && (if x.kind = 1 then decide (x.cmd.l.length = 0) && cfgNone x.cfg.x else if x.kind = 2 then decide (x.cmd.l.length ≤ 131072) && cfgNone x.cfg.x else decide (x.kind = 3) && (decide (x.cmd.l.length = 0) && cfgOk x.cfg.x))) := rfl
  obtain ⟨nn, hnn⟩ : ∃ d, cfgNone x.cfg.x = d := ⟨_, rfl⟩
  obtain ⟨cc, hcc⟩ : ∃ d, cfgOk x.cfg.x = d := ⟨_, rfl⟩
  simp only [hnn] at he
  simp only [hcc] at hc
  rw [hnn, hcc] at hok
  obtain ⟨r, hr⟩ : ∃ r, entOk x.x = r := ⟨_, rfl⟩
  rw [hr] at hok ⊢
  have hcl := hz.cmd
  have HW0 := Lib.hid hW0
  have HO := Lib.hid hok
  have hkd := hx.kind
  clear hW0 hr hnn hcc hx hz hok b0
  generalize x.cmd.l.length = n at *
  by_cases ht : 0 ≤ x.term ∧ x.term ≤ 1073741824
  case neg =>
    have htd : topOk x.term = false := decide_eq_false ht
    have HT := Lib.hid htd
    clear htd
    have hw := fun w => jwithin_any w x.term 1073741824
    simp only [decide_eq_false ht] at hw
    have HWi := Lib.hid ht
    clear ht
    go_enter Try.func51, Try.ntmps51
    go_upto_region 1 with (fail)
    rw [← HW0.out]
    go_wp2_with (first | (go_at_call 76; refine (hw _).mono ?_; rintro e v ⟨rfl, rfl⟩) | (go_at_call 77; refine (he _).mono ?_; rintro e w2 ⟨rfl, q2⟩) | (go_at_call 48; refine (hc _ (Fr.refl _ _)).mono ?_; rintro e w2 ⟨rfl, q2⟩))
    go_ret
    exact ⟨ret_eq (congrArg Value.bool (by rw [HO.out]; rw [HT.out]; rfl)), p0⟩
  have htd : topOk x.term = true := decide_eq_true ht
  have HT := Lib.hid htd
  clear htd
  obtain ⟨ht1, ht2⟩ := ht
  have hw := fun w => jwithin_any w x.term 1073741824
  simp only [decide_eq_true (show 0 ≤ x.term ∧ x.term ≤ 1073741824 from ⟨ht1, ht2⟩)] at hw
  by_cases h1 : x.kind = 1
  · have g1 : (x.kind == 1) = true := by simp [h1]
    have H1 := Lib.hid h1
    clear h1
    by_cases h4 : n = 0
    · have g4 : ((n : Int) == 0) = true := by simp [h4]
      have H4 := Lib.hid h4
      clear h4
      go_enter Try.func51, Try.ntmps51
      go_upto_region 1 with (fail)
      rw [← HW0.out]
      go_wp2_with (first | (go_at_call 76; refine (hw _).mono ?_; rintro e v ⟨rfl, rfl⟩) | (go_at_call 77; refine (he _).mono ?_; rintro e w2 ⟨rfl, q2⟩) | (go_at_call 48; refine (hc _ (Fr.refl _ _)).mono ?_; rintro e w2 ⟨rfl, q2⟩))
      go_ret
      exact ⟨ret_eq (congrArg Value.bool (by rw [HO.out]; rw [HT.out, if_pos H1.out, decide_eq_true H4.out]; rfl)), p0.tr q2⟩
    · have g4 : ((n : Int) == 0) = false := by simp [h4]
      have H4 := Lib.hid h4
      clear h4
      go_enter Try.func51, Try.ntmps51
      go_upto_region 1 with (fail)
      rw [← HW0.out]
      go_wp2_with (first | (go_at_call 76; refine (hw _).mono ?_; rintro e v ⟨rfl, rfl⟩) | (go_at_call 77; refine (he _).mono ?_; rintro e w2 ⟨rfl, q2⟩) | (go_at_call 48; refine (hc _ (Fr.refl _ _)).mono ?_; rintro e w2 ⟨rfl, q2⟩))
      go_ret
      exact ⟨ret_eq (congrArg Value.bool (by rw [HO.out]; rw [HT.out, if_pos H1.out, decide_eq_false H4.out]; rfl)), p0⟩
  · have g1 : (x.kind == 1) = false := by simp [h1]
    have H1 := Lib.hid h1
    clear h1
    by_cases h2 : x.kind = 2
    · have g2 : (x.kind == 2) = true := by simp [h2]
      have H2 := Lib.hid h2
      clear h2
      by_cases h4 : n ≤ 131072
      · have g4 : (n : Int) ≤ 131072 := by omega
        have H4 := Lib.hid h4
        clear h4
        go_enter Try.func51, Try.ntmps51
        go_upto_region 1 with (fail)
        rw [← HW0.out]
        go_wp2_with (first | (go_at_call 76; refine (hw _).mono ?_; rintro e v ⟨rfl, rfl⟩) | (go_at_call 77; refine (he _).mono ?_; rintro e w2 ⟨rfl, q2⟩) | (go_at_call 48; refine (hc _ (Fr.refl _ _)).mono ?_; rintro e w2 ⟨rfl, q2⟩))
        go_ret
        exact ⟨ret_eq (congrArg Value.bool (by rw [HO.out]; rw [HT.out, if_neg H1.out, if_pos H2.out, decide_eq_true H4.out]; rfl)), p0.tr q2⟩
      · have g4 : ¬ (n : Int) ≤ 131072 := by omega
        have H4 := Lib.hid h4
        clear h4
        go_enter Try.func51, Try.ntmps51
        go_upto_region 1 with (fail)
        rw [← HW0.out]
        go_wp2_with (first | (go_at_call 76; refine (hw _).mono ?_; rintro e v ⟨rfl, rfl⟩) | (go_at_call 77; refine (he _).mono ?_; rintro e w2 ⟨rfl, q2⟩) | (go_at_call 48; refine (hc _ (Fr.refl _ _)).mono ?_; rintro e w2 ⟨rfl, q2⟩))
        go_ret
        exact ⟨ret_eq (congrArg Value.bool (by rw [HO.out]; rw [HT.out, if_neg H1.out, if_pos H2.out, decide_eq_false H4.out]; rfl)), p0⟩
    · have g2 : (x.kind == 2) = false := by simp [h2]
      have H2 := Lib.hid h2
      clear h2
      by_cases h3 : x.kind = 3
      · have g3 : (x.kind == 3) = true := by simp [h3]
        have H3 := Lib.hid h3
        clear h3
        by_cases h4 : n = 0
        · have g4 : ((n : Int) == 0) = true := by simp [h4]
          have H4 := Lib.hid h4
          clear h4
          go_enter Try.func51, Try.ntmps51
          go_upto_region 1 with (fail)
          rw [← HW0.out]
          go_wp2_with (first | (go_at_call 76; refine (hw _).mono ?_; rintro e v ⟨rfl, rfl⟩) | (go_at_call 77; refine (he _).mono ?_; rintro e w2 ⟨rfl, q2⟩) | (go_at_call 48; refine (hc _ (Fr.refl _ _)).mono ?_; rintro e w2 ⟨rfl, q2⟩))
          go_ret
          exact ⟨ret_eq (congrArg Value.bool (by rw [HO.out]; rw [HT.out, if_neg H1.out, if_neg H2.out, decide_eq_true H3.out, decide_eq_true H4.out]; rfl)), p0.tr q2⟩
        · have g4 : ((n : Int) == 0) = false := by simp [h4]
          have H4 := Lib.hid h4
          clear h4
          go_enter Try.func51, Try.ntmps51
          go_upto_region 1 with (fail)
          rw [← HW0.out]
          go_wp2_with (first | (go_at_call 76; refine (hw _).mono ?_; rintro e v ⟨rfl, rfl⟩) | (go_at_call 77; refine (he _).mono ?_; rintro e w2 ⟨rfl, q2⟩) | (go_at_call 48; refine (hc _ (Fr.refl _ _)).mono ?_; rintro e w2 ⟨rfl, q2⟩))
          go_ret
          exact ⟨ret_eq (congrArg Value.bool (by rw [HO.out]; rw [HT.out, if_neg H1.out, if_neg H2.out, decide_eq_true H3.out, decide_eq_false H4.out]; rfl)), p0⟩
      · have g3 : (x.kind == 3) = false := by simp [h3]
        have H3 := Lib.hid h3
        clear h3
        go_enter Try.func51, Try.ntmps51
        go_upto_region 1 with (fail)
        rw [← HW0.out]
        go_wp2_with (first | (go_at_call 76; refine (hw _).mono ?_; rintro e v ⟨rfl, rfl⟩) | (go_at_call 77; refine (he _).mono ?_; rintro e w2 ⟨rfl, q2⟩) | (go_at_call 48; refine (hc _ (Fr.refl _ _)).mono ?_; rintro e w2 ⟨rfl, q2⟩))
        go_ret
        exact ⟨ret_eq (congrArg Value.bool (by rw [HO.out]; rw [HT.out, if_neg H1.out, if_neg H2.out, decide_eq_false H3.out]; rfl)), p0⟩
def wOk (lo hi n : Int) : Bool := decide (lo ≤ n ∧ n ≤ hi)
def entOkM (e : EntM) : Bool := entOk e.x
def withinB (lo hi : Int) (l : List Int) : Bool := l.all (wOk lo hi)
set_option maxRecDepth 100000 in
theorem within_c1 (w : World) (x lo hi : Int) (L M : Nat) (cl : w.cell? ⟨L, 0, none⟩ = some (I64 lo)) (cm : w.cell? ⟨M, 0, none⟩ = some (I64 hi)) :
    Calls Try.prog 73 #[I64 x, .pointer (some ⟨L, 0, none⟩), .pointer (some ⟨M, 0, none⟩)] w fun e w' => e = .returned (.bool (!wOk lo hi x)) ∧ w = w' := by
  unfold wOk
  by_cases h1 : x < lo
  · have e : (!decide (lo ≤ x ∧ x ≤ hi)) = true := by rw [decide_eq_false (by omega)]; rfl
    rw [e]
    go_enter Try.func73, Try.ntmps73
    go_wp2_with fail
    go_ret
    exact ⟨by simp, rfl⟩
  · by_cases h2 : hi < x
    · have e : (!decide (lo ≤ x ∧ x ≤ hi)) = true := by rw [decide_eq_false (by omega)]; rfl
      rw [e]
      go_enter Try.func73, Try.ntmps73
      go_wp2_with fail
      go_ret
      exact ⟨by simp, rfl⟩
    · have e : (!decide (lo ≤ x ∧ x ≤ hi)) = false := by rw [decide_eq_true (by omega)]; rfl
      rw [e]
      go_enter Try.func73, Try.ntmps73
      go_wp2_with fail
      go_ret
      exact ⟨by simp, rfl⟩
def winR (w : World) (ok : Int → Bool) (l : List Int) (i : Value) (wx : World) : Prop := ∃ k : Nat, k ≤ l.length ∧ i = .int .i64 k ∧ (∀ j (h : j < l.length), j < k → ok l[j] = true) ∧ Nw w wx
set_option maxRecDepth 100000 in
theorem win_index (w : World) (F : Nat → Prop) (A : Option Addr) (c : Nat) (l : List Int) (hs : Sl w F A (intsC l)) (hl : l.length ≤ 1000000000) (lo hi : Int) (L M : Nat) (cl : w.cell? ⟨L, 0, none⟩ = some (I64 lo)) (cm : w.cell? ⟨M, 0, none⟩ = some (I64 hi)) :
    Calls Try.prog 96 #[.slice A l.length c, .func (.func 73) #[] #[.pointer (some ⟨L, 0, none⟩), .pointer (some ⟨M, 0, none⟩)]] w
      fun e w' => ∃ i : Int, e = .returned (.int .i64 i) ∧ (0 ≤ i ↔ l.all (wOk lo hi) = false) ∧ Nw w w' := by
  go_enter Try.func96, Try.ntmps96
  go_wp2_with fail
  go_loopw [8] (fun i wx => winR w (wOk lo hi) l i wx) (fun i _ => l.length - (intOf i).toNat)
  case atStart => exact ⟨0, Nat.zero_le _, rfl, fun _ _ h => by omega, Fr.refl _ _⟩
  case round =>
    obtain ⟨k, hk, rfl, hok, hq⟩ := hrel
    have HK := Lib.hid hok
    clear hok
    by_cases hlt : k < l.length
    · obtain ⟨b, o, rfl, _, hc⟩ := (hs.fr hq (fun _ _ h => h)).get hlt
      have cl2 := (hq.cell (World.block_lt_of_cell? _ _ cl) (fun h => h)).trans cl
      have cm2 := (hq.cell (World.block_lt_of_cell? _ _ cm) (fun h => h)).trans cm
      have hcon := within_c1 wr l[k] lo hi L M cl2 cm2
      obtain ⟨p, hp⟩ : ∃ p, (wOk lo hi) l[k] = p := ⟨_, rfl⟩
      have HP := Lib.hid hp
      simp only [hp] at hcon
      clear hp
      cases p
      · go_wp2_with (first | (go_at_call 73; refine hcon.mono ?_; rintro e w1 ⟨rfl, rfl⟩; have q1 := Fr.refl (fun _ => False) wr))
        go_ret
        refine ⟨k, rfl, ⟨fun _ => ?_, fun _ => by omega⟩, hq.tr q1⟩
        refine Bool.eq_false_iff.2 fun h => ?_
        have := List.all_eq_true.1 h _ (List.getElem_mem hlt)
        rw [HP.out] at this
        cases this
      · go_wp2_with (first | (go_at_call 73; refine hcon.mono ?_; rintro e w1 ⟨rfl, rfl⟩; have q1 := Fr.refl (fun _ => False) wr))
        go_roundw
        case rel =>
          refine ⟨k + 1, by omega, rfl, fun j hj hjk => ?_, hq.tr q1⟩
          by_cases hjk2 : j < k
          · exact HK.out j hj hjk2
          · obtain rfl : j = k := by omega
            exact HP.out
        case measure => simp [intOf]; omega
    · go_wp2_with fail
      go_ret
      have e : l.all (wOk lo hi) = true := List.all_eq_true.2 fun x hx => by
        obtain ⟨j, hj, rfl⟩ := List.mem_iff_getElem.1 hx
        exact HK.out j hj (by omega)
      exact ⟨-1, rfl, ⟨fun h => by omega, fun h => by rw [e] at h; cases h⟩, hq⟩
set_option maxRecDepth 100000 in
theorem win_contains (w : World) (F : Nat → Prop) (A : Option Addr) (c : Nat) (l : List Int) (hs : Sl w F A (intsC l)) (hl : l.length ≤ 1000000000) (lo hi : Int) (L M : Nat) (cl : w.cell? ⟨L, 0, none⟩ = some (I64 lo)) (cm : w.cell? ⟨M, 0, none⟩ = some (I64 hi)) :
    Calls Try.prog 72 #[.slice A l.length c, .func (.func 73) #[] #[.pointer (some ⟨L, 0, none⟩), .pointer (some ⟨M, 0, none⟩)]] w fun e w' => e = .returned (.bool (!l.all (wOk lo hi))) ∧ Nw w w' := by
  have hI := win_index w F A c l hs hl lo hi L M cl cm
  have HI := Lib.hid hI
  clear hI
  go_enter Try.func72, Try.ntmps72
  go_wp2_with fail
  refine HI.out.mono ?_
  rintro e w1 ⟨i, rfl, hii, q1⟩
  have hd : decide (0 ≤ i) = !l.all (wOk lo hi) := by
    by_cases h0 : 0 ≤ i
    · rw [decide_eq_true h0, hii.1 h0]; rfl
    · have hn : l.all (wOk lo hi) = true := by
        cases h : l.all (wOk lo hi) with
        | true => rfl
        | false => exact (h0 (hii.2 h)).elim
      rw [decide_eq_false h0, hn]; rfl
  have HD := Lib.hid hd
  clear hd hii
  go_wp2_with fail
  go_ret
  exact ⟨congrArg (fun b => Ending.returned (.bool b)) HD.out, q1⟩
set_option maxRecDepth 100000 in
theorem within_any (w : World) (F : Nat → Prop) (A : Option Addr) (c : Nat) (l : List Int) (lo hi : Int) (hs : Sl w F A (intsC l)) (hl : l.length ≤ 1000000000) :
    Calls Try.prog 47 #[I64 lo, I64 hi, .slice A l.length c] w fun e w' => e = .returned (.bool (withinB lo hi l)) ∧ Nw w w' := by
  obtain ⟨L, hL⟩ : ∃ L, L = w.heap.size := ⟨_, rfl⟩
  obtain ⟨M, hM⟩ : ∃ M, M = w.heap.size + 1 := ⟨_, rfl⟩
  obtain ⟨W0, hW0⟩ : ∃ W, W = (w.alloc (.cells #[I64 lo] 3)).alloc (.cells #[I64 hi] 3) := ⟨_, rfl⟩
  have q0 : Nw w W0 := by rw [hW0]; exact ((Fr.refl (fun _ => False) _).alloc _).alloc _
  have bl : Blk W0 L 3 #[I64 lo] := by rw [hW0, hL]; exact (Blk.new w 3 #[I64 lo]).alloc _
  have bm : Blk W0 M 3 #[I64 hi] := by rw [hW0, hM]; simpa using Blk.new (w.alloc (.cells #[I64 lo] 3)) 3 #[I64 hi]
  have cl : W0.cell? ⟨L, 0, none⟩ = some (I64 lo) := by simpa using bl.cell 0
  have cm : W0.cell? ⟨M, 0, none⟩ = some (I64 hi) := by simpa using bm.cell 0
  have hcon := win_contains W0 F A c l (hs.fr q0 (fun _ _ h => h)) hl lo hi L M cl cm
  have HL := Lib.hid hL
  have HM := Lib.hid hM
  have HW0 := Lib.hid hW0
  have HC := Lib.hid hcon
  clear hL hM hW0 hcon cl cm bl bm
  go_enter Try.func47, Try.ntmps47
  go_upto_region 1 with (fail)
  rw [← HM.out, ← HL.out, ← HW0.out]
  go_wp2_with fail
  refine HC.out.mono ?_
  rintro e w1 ⟨rfl, q1⟩
  go_wp2_with fail
  go_ret
  exact ⟨ret_eq (congrArg Value.bool (by unfold withinB; simp)), q0.tr q1⟩
set_option maxRecDepth 100000 in
theorem right_c1 (w : World) (F : Nat → Prop) (x : EntM) (hx : EntIn w F x) (hz : EntSz x) :
    Calls Try.prog 50 #[.agg (entA x)] w fun e w' => e = .returned (.bool (!entOkM x)) ∧ Nw w w' := by
  unfold entOkM
  obtain ⟨W0, hW0⟩ : ∃ W, W = w.alloc (.cells (entA x) 60) := ⟨_, rfl⟩
  have p0 : Nw w W0 := by rw [hW0]; exact (Fr.refl (fun _ => False) _).alloc _
  have b0 : Blk W0 w.heap.size 60 (entA x) := by rw [hW0]; exact Blk.new _ _ _
  have hcon := jent W0 F x (hx.nw p0) hz
  generalize entOk x.x = r at hcon ⊢
  have HW0 := Lib.hid hW0
  have HC := Lib.hid hcon
  clear hW0 hcon
  go_enter Try.func50, Try.ntmps50
  go_upto_region 1 with (fail)
  rw [← HW0.out]
  go_wp2_with (refine wpList_load_row rfl 60 _ rfl w.heap.size rfl 60 _ (0, 0) _ b0 Try.underlying60 rfl (by kernel_rfl) ?_)
  refine HC.out.mono ?_
  rintro e w1 ⟨rfl, q1⟩
  go_wp2_with fail
  go_ret
  exact ⟨rfl, p0.tr q1⟩
def entsR (w : World) (ok : EntM → Bool) (l : List EntM) (i : Value) (wx : World) : Prop := ∃ k : Nat, k ≤ l.length ∧ i = .int .i64 k ∧ (∀ j (h : j < l.length), j < k → ok l[j] = true) ∧ Nw w wx
set_option maxRecDepth 100000 in
theorem ents_index (w : World) (F : Nat → Prop) (A : Option Addr) (c : Nat) (l : List EntM) (hs : Sl w F A (entsC l)) (hl : l.length ≤ 1000000000) (he : ∀ e ∈ l, EntIn w F e) (hz : ∀ e ∈ l, EntSz e) :
    Calls Try.prog 75 #[.slice A l.length c, .func (.func 50) #[] #[]] w
      fun e w' => ∃ i : Int, e = .returned (.int .i64 i) ∧ (0 ≤ i ↔ l.all (entOkM) = false) ∧ Nw w w' := by
  have HE := Lib.hid he
  have HZ := Lib.hid hz
  clear he hz
  go_enter Try.func75, Try.ntmps75
  go_wp2_with fail
  go_loopw [8] (fun i wx => entsR w (entOkM) l i wx) (fun i _ => l.length - (intOf i).toNat)
  case atStart => exact ⟨0, Nat.zero_le _, rfl, fun _ _ h => by omega, Fr.refl _ _⟩
  case round =>
    obtain ⟨k, hk, rfl, hok, hq⟩ := hrel
    have HK := Lib.hid hok
    clear hok
    by_cases hlt : k < l.length
    · obtain ⟨b, o, rfl, _, _, hc⟩ := (hs.fr hq (fun _ _ h => h)).ent hlt
      have hcon := right_c1 wr F l[k] ((HE.out _ (List.getElem_mem hlt)).nw hq) (HZ.out _ (List.getElem_mem hlt))
      obtain ⟨p, hp⟩ : ∃ p, (entOkM) l[k] = p := ⟨_, rfl⟩
      have HP := Lib.hid hp
      simp only [hp] at hcon
      clear hp
      cases p
      · go_wp2_with (first | (refine wl_load_cells rfl 60 _ rfl b (o + k * 7) rfl _ _ hc Try.underlying60 rfl (by kernel_rfl) ?_) | (go_at_call 50; refine hcon.mono ?_; rintro e w1 ⟨rfl, q1⟩))
        go_ret
        refine ⟨k, rfl, ⟨fun _ => ?_, fun _ => by omega⟩, hq.tr q1⟩
        refine Bool.eq_false_iff.2 fun h => ?_
        have := List.all_eq_true.1 h _ (List.getElem_mem hlt)
        rw [HP.out] at this
        cases this
      · go_wp2_with (first | (refine wl_load_cells rfl 60 _ rfl b (o + k * 7) rfl _ _ hc Try.underlying60 rfl (by kernel_rfl) ?_) | (go_at_call 50; refine hcon.mono ?_; rintro e w1 ⟨rfl, q1⟩))
        go_roundw
        case rel =>
          refine ⟨k + 1, by omega, rfl, fun j hj hjk => ?_, hq.tr q1⟩
          by_cases hjk2 : j < k
          · exact HK.out j hj hjk2
          · obtain rfl : j = k := by omega
            exact HP.out
        case measure => simp [intOf]; omega
    · go_wp2_with fail
      go_ret
      have e : l.all (entOkM) = true := List.all_eq_true.2 fun x hx => by
        obtain ⟨j, hj, rfl⟩ := List.mem_iff_getElem.1 hx
        exact HK.out j hj (by omega)
      exact ⟨-1, rfl, ⟨fun h => by omega, fun h => by rw [e] at h; cases h⟩, hq⟩
set_option maxRecDepth 100000 in
theorem ents_contains (w : World) (F : Nat → Prop) (A : Option Addr) (c : Nat) (l : List EntM) (hs : Sl w F A (entsC l)) (hl : l.length ≤ 1000000000) (he : ∀ e ∈ l, EntIn w F e) (hz : ∀ e ∈ l, EntSz e) :
    Calls Try.prog 49 #[.slice A l.length c, .func (.func 50) #[] #[]] w fun e w' => e = .returned (.bool (!l.all (entOkM))) ∧ Nw w w' := by
  have hI := ents_index w F A c l hs hl he hz
  have HI := Lib.hid hI
  clear hI
  go_enter Try.func49, Try.ntmps49
  go_wp2_with fail
  refine HI.out.mono ?_
  rintro e w1 ⟨i, rfl, hii, q1⟩
  have hd : decide (0 ≤ i) = !l.all (entOkM) := by
    by_cases h0 : 0 ≤ i
    · rw [decide_eq_true h0, hii.1 h0]; rfl
    · have hn : l.all (entOkM) = true := by
        cases h : l.all (entOkM) with
        | true => rfl
        | false => exact (h0 (hii.2 h)).elim
      rw [decide_eq_false h0, hn]; rfl
  have HD := Lib.hid hd
  clear hd hii
  go_wp2_with fail
  go_ret
  exact ⟨congrArg (fun b => Ending.returned (.bool b)) HD.out, q1⟩
end Go.Proofs.Ytippdjaakcgeoaa
