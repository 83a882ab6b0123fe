/- Lemmas of the walks: FtL, ApN, BgC. (Laid together by shake.py.) -/
import Derived.Test.YtippdjaakcgeoaaGreatProg
import Derived.Test.YtippdjaakcgeoaaGreatNe01
import Derived.Test.YtippdjaakcgeoaaGreatNe21
import Derived.Test.YtippdjaakcgeoaaGreatNe22
import Derived.Test.YtippdjaakcgeoaaGreatNe23
set_option linter.unusedVariables false
set_option linter.unusedSimpArgs false
namespace Go.Proofs.YtippdjaakcgeoaaGreat
open Go Go.RowKit
set_option linter.unusedVariables false
set_option linter.unusedSimpArgs false
def mkLL (k i : Nat) : List Value := letL (mkLe k i)
theorem mkLL_len (k i : Nat) : (mkLL k i).length = 20 := rfl
theorem info_eL : (Tryz.prog.info? 50).map (fun i => (i.zero, i.size, i.bytes)) = some (some (.agg #[U8V 0, I64 0, I64 0, I64 0, I64 0, I64 0, I64 0, I64 0, .bool false, .slice none 0 0, I64 0, I64 0, .slice none 0 0, .slice none 0 0, .slice none 0 0, .slice none 0 0, I64 0, I64 0, I64 0, .slice none 0 0]), 20, 256) := by kernel_rfl
set_option maxRecDepth 100000 in
set_option maxHeartbeats 8000000 in
theorem flatL_c (w : World) (F0 : Nat → Prop) (B : Option Addr) (c : Nat) (m : Nat) (A : Nat → Option Addr) (N cp : Nat → Nat) (f : Nat → List Value) (hs : Sl w F0 B (hdrs m A N cp)) (hr : RowsC w 50 20 m A N cp f) (hfar : FarC m A cp) (h0 : ∀ b, F0 b → ¬ InC m A cp b)
    (hm : m ≤ 1000000000) (hN : ∀ k, k < m → N k ≤ 100000000000) :
    Calls Tryz.prog 128 #[.slice B m c] w fun e w' => e = .returned (.bool true) ∧ Fr (InC m A cp) w w' := by
  have hmkl := mkLL_len
  go_enter Tryz.func128, Tryz.ntmps128
  go_wp2_with fail
  go_loopw [3] (fun i wr => Fl1o mkLL 50 20 w m A N cp i wr) (fun i _ => m - (intOf i).toNat)
  case atStart => exact ⟨0, Nat.zero_le _, rfl, f, hr, fun _ h => by omega, Fr.refl _ _⟩
  case round =>
    obtain ⟨k, hk, rfl, f1, hr1, hb1, hf1⟩ := hrel
    have HB1 := Lib.hid hb1
    clear hb1
    by_cases hlt : k < m
    · obtain ⟨b, o, rfl, hF, hc⟩ := (hs.fr hf1 h0).hdr hlt
      have hNk := hN k hlt
      go_wp2_with fail
      go_loopw [4] (fun i wx => Fl1i mkLL 50 20 w m A N cp k i wx) (fun i _ => N k - (intOf i).toNat)
      case atStart => exact ⟨0, f1, Nat.zero_le _, rfl, hr1, HB1.out, (by simp [mksL]), hf1⟩
      case round =>
        obtain ⟨j, f2, hj, rfl, hr2, hb2, ht2, hf2⟩ := hrel
        have HB2 := Lib.hid hb2
        have HT2 := Lib.hid ht2
        clear hb2 ht2 hc
        obtain ⟨b', o', hB, hF', hc⟩ := (hs.fr hf2 h0).hdr hlt
        injection hB with hB
        injection hB with hB1' hB2' _
        subst hB1' hB2'
        by_cases hltj : j < N k
        · have ho := hr2 k hlt
          obtain ⟨g, hA, hho, o1⟩ := ho.at_ (by have := ho.cap_le.1; omega)
          have hth : ∀ w', Nw wr w' → w'.there g (j * 20) 20 := fun w' q => (o1.fr q (fun _ _ h => h)).thereAt hltj
          have hmk : ∀ n : Later wr, _ := fun n => markLetter_any n.at_ k j (by omega) (by omega)
          have hnx : ∀ w1, Nw wr w1 → ∀ w', w' = w1.setCells g (j * 20) (letL (mkLe k j)) → Fl1i mkLL 50 20 w m A N cp k (.int .i64 ((j : Int) + 1)) w' := fun w1 q w' h => Fl1i.next hmkl hfar hlt hltj (hr2.nw q) HB2.out HT2.out (hf2.tr (Nw.on q)) hA h
          obtain ⟨x, hxx⟩ : ∃ x, mkLe k j = x := ⟨_, rfl⟩
          rw [hxx] at hmk hnx
          have hone := letA_one x
          have hsz : (letA x).size = 20 := rfl
          have HTH := Lib.hid hth
          have HMK := Lib.hid hmk
          have HNX := Lib.hid hnx
          clear hth hmk hnx o1 ho
          rw [hA] at hc
          have hi0 : (j : Int) < (N k : Int) := by omega
          have hi1 : decide ((j : Int) < (N k : Int)) = true := decide_eq_true hi0
          have hi2 : decide (j < N k) = true := decide_eq_true hltj
          have d1 := fun (n : Later wr) => n.cell hc
          go_wp2_with fail
          refine wp_region_later_tail 9 (by kernel_rfl) (by kernel_rfl) ?_
          simp only [List.take_succ_cons, List.take_zero, List.drop_succ_cons, List.drop_zero]
          repeat (go_big_quiet_step ((go_at_call 65; exact Later.call (HMK.out _))))
          refine wpQuiet_nil ?_
          intro w5 q5
          have hth5 := HTH.out w5 q5
          refine wpList_store_mid rfl 50 _ _ rfl g (j * 20) (letA x) ?_ ?_ ?_ ?_ ?_ ?_
          · rfl
          · rfl
          · exact hth5
          · kernel_rfl
          · exact hone
          · have hw5 : ∀ w', w' = w5.setCells g (j * 20) (letA x).toList → w' = w5.setCells g (j * 20) (letL x) := fun w' h => h
            obtain ⟨w6, hw6⟩ : ∃ w', w' = w5.setCells g (j * 20) (letA x).toList := ⟨_, rfl⟩
            rw [← hw6]
            have h6 := HNX.out w5 q5 w6 (hw5 w6 hw6)
            have H6 := Lib.hid h6
            clear hw6 hw5 h6 hth5
            go_wp2_with fail
            refine ⟨H6.out, ?_⟩
            simp [intOf]
            omega
        · have hfk : f2 k = mksL mkLL k (N k) := by
            have h1 := HT2.out
            have h2 := (hr2 k hlt).len
            rwa [List.take_of_length_le (by rw [h2]; exact Nat.mul_le_mul_right _ (by omega)), show j = N k by omega] at h1
          have HFK := Lib.hid hfk
          clear hfk
          obtain rfl : j = N k := by omega
          go_wp2_with fail
          go_roundw
          case rel =>
            refine ⟨k + 1, by omega, by go_num, f2, hr2, fun i hi => ?_, hf2⟩
            by_cases e : i = k
            · subst e; exact HFK.out
            · exact HB2.out i (by omega)
          case measure => simp [intOf]; omega
    · obtain rfl : m = k := by omega
      have hr2 : RowsC wr 50 20 m A N cp (fun j => mksL mkLL j (N j)) := hr1.congr HB1.out
      have hsz1 := hf1.size
      clear hr1 HB1
      go_wp2_with (at_make; refine wl_make rfl _ _ _ rfl 24 (.slice none 0 0) Tryz.underlying39 info_hl rfl .i64 .i64 _ _ m rfl rfl rfl rfl (by omega) (by unfold maxLen; omega) ?_; intro w2 ho2 q2)
      have hf2 := hf1.tr (Nw.on q2)
      have hr3 := hr2.nw q2
      have hApG : FlG mkLL 50 28 20 w m A N cp wr.heap.size (conA mkLL N) 0 w2 := ⟨_, fun _ => none, fun _ => 0, ho2, fun _ h => by omega, fun _ h => by omega, fun _ h => by omega, hr3, hf2⟩
      obtain ⟨gg, hgg⟩ : ∃ gg, wr.heap.size = gg := ⟨_, rfl⟩
      rw [hgg] at hApG hsz1 ⊢
      clear hgg hr2 hf2 hr3 ho2 q2 hf1
      go_loopw [6] (fun i wx => FlGo mkLL 50 28 20 w m A N cp gg (conA mkLL N) i wx) (fun i _ => m - (intOf i).toNat)
      case atStart => exact ⟨0, Nat.zero_le _, rfl, hApG⟩
      case round =>
        clear hApG
        obtain ⟨k, hk, rfl, hG⟩ := hrel
        obtain ⟨wo, rfl⟩ : ∃ wo : World, wo = wr := ⟨_, rfl⟩
        have hrow := hG.rows
        have hfo := hG.fr
        by_cases hlt : k < m
        · obtain ⟨b, o, rfl, hF, hc⟩ := (hs.fr hfo h0).hdr hlt
          have hNk := hN k hlt
          have hAk : ∀ b, inA (hom (A k) (cp k)) b → b < wo.heap.size := fun b hb => (hrow k hlt).lt b hb
          have hFk : ¬ inA (hom (A k) (cp k)) b := fun h => h0 b hF ⟨k, hlt, h⟩
          have hbl := World.block_lt_of_cell? _ _ hc
          go_wp2_with fail
          go_loopw [7, 8] (fun v i wx => FlXi mkLL 50 20 A N cp k wo v i wx) (fun _ i _ => 64 - (intOf i).toNat)
          case atStart => exact ⟨0, A k, cp k, by omega, rfl, rfl, Fr.refl _ _, by simpa using hrow k hlt, .inl ⟨rfl, rfl⟩, hrow k hlt⟩
          case round =>
            obtain ⟨j, X, c', hj, rfl, rfl, hX⟩ := hrel
            have hcx := (hX.1.cell (p := ⟨b, o + k, none⟩) hbl hFk).trans hc
            by_cases hltj : j < 64
            · have hmk := fun w => markLetter_any w k (N k + j) (by omega) (by omega)
              have hju : (((N k + j : Nat)) : Int) = (N k : Int) + (j : Int) := by omega
              rw [hju] at hmk
              have hnx := fun (w1 w' : World) (A' : Option Addr) (cap' : Nat) (q1 : Nw wr w1) (h : AppC w1 50 20 X (N k + j) c' 1 (mksL mkLL k (N k + j)) (letL (mkLe k (N k + j))) A' cap' w') =>
                FlX.next hX q1 (by omega) (mksL_len hmkl _ _) (by omega) (mksL_take hmkl _ _ _ (by omega)) hAk h
              have hnx2 : ∀ (w1 w' : World) (A' : Option Addr) (cap' : Nat), Nw wr w1 → AppC w1 50 20 X (N k + j) c' 1 (mksL mkLL k (N k + j)) (letL (mkLe k (N k + j))) A' cap' w' → FlXi mkLL 50 20 A N cp k wo (.slice A' (N k + j + 1) cap') (.int .i64 ((j : Int) + 1)) w' := fun w1 w' A' cap' q1 h =>
                ⟨j + 1, A', cap', by omega, by go_num, rfl, by have := hnx w1 w' A' cap' q1 h; have e : mksL mkLL k (N k + (j + 1)) = mksL mkLL k (N k + j) ++ letL (mkLe k (N k + j)) := mksL_succ _ _ _; rw [e]; exact this⟩
              have hXo := hX.2.1
              have hcm := letL_cell (mkLe k (N k + j))
              have hcs : (mksL mkLL k (N k + j)).length = (N k + j) * 20 := mksL_len hmkl _ _
              generalize mksL mkLL k (N k + j) = con at hnx2 hXo hcs
              obtain ⟨x, hxx⟩ : ∃ x, mkLe k (N k + j) = x := ⟨_, rfl⟩
              rw [hxx] at hmk hnx2 hcm
              have hlen : (letL x).length = 1 * 20 := rfl
              have HMK := Lib.hid hmk
              have HNX := Lib.hid hnx2
              have HCS := Lib.hid hcs
              have HX := Lib.hid hX
              clear hmk hnx hnx2 hju hc hcs hX hxx
              go_wp2_with fail
              refine (HMK.out _).mono ?_
              rintro e w3 ⟨rfl, q3⟩
              have sln := sl_new w3 50 (letL x) _ rfl
              have qa : Nw w3 (w3.alloc (.cells (letA x) 50)) := (Fr.refl (fun _ => False) _).alloc _
              have hoa := (hXo.nw q3).nw qa
              obtain ⟨V2, hV2⟩ : ∃ V, V = w3.alloc (.cells (letA x) 50) := ⟨_, rfl⟩
              rw [← hV2] at sln qa hoa
              have HV2 := Lib.hid hV2
              clear hV2
              go_wp2_with (at_builtin; rw [← HV2.out]; refine wl_appendC rfl _ _ _ rfl 256 (.agg #[U8V 0, I64 0, I64 0, I64 0, I64 0, I64 0, I64 0, I64 0, .bool false, .slice none 0 0, I64 0, I64 0, .slice none 0 0, .slice none 0 0, .slice none 0 0, .slice none 0 0, I64 0, I64 0, I64 0, .slice none 0 0]) Tryz.underlying28 info_eL rfl (by decide) rfl hoa rfl sln hlen hcm (by omega) (by unfold maxLen; omega) (by omega) ?_; intro A' cap' w4 hap)
              go_roundw
              case rel => exact HNX.out _ _ _ _ (q3.tr qa) hap
              case measure => simp [intOf]; omega
            · obtain rfl : j = 64 := by omega
              obtain ⟨cells, hgo⟩ := hG.own
              have hng : ¬ inA (hom (A k) (cp k)) gg := fun h => by
                obtain ⟨cur0, hbg, _⟩ := hgo.blk
                exact (hrow k hlt).offB hbg (by decide) h
              have hgo2 := hgo.fr hX.1 (fun j hj h => by rw [(inA_some _ _).1 hj] at h; exact hng h)
              obtain ⟨u, hcu⟩ : ∃ u, wr.cell? ⟨gg, k, none⟩ = some u := hgo2.cellEx (by omega)
              have hfz := hgo2.frozenAt k
              have hnx := fun (w' : World) (h : w' = _) => FlG.next (w' := w') (EE := 28) (by decide) (by omega) hG hsz1 hr hfar hlt hX h
              have HNX := Lib.hid hnx
              have hi0 : (k : Int) < (m : Int) := by omega
              have HX := Lib.hid hX
              have HGG := Lib.hid hG
              clear hnx hgo hgo2 hc hcx hX hG
              go_wp2_with fail
              go_roundw
              case rel => exact ⟨k + 1, by omega, by go_num, HNX.out _ rfl⟩
              case measure => simp [intOf]; omega
        · obtain rfl : m = k := by omega
          go_wp2_with fail
          go_loopw [9] (fun i wx => KnownNw wo m i wx) (fun i _ => m - (intOf i).toNat)
          case atStart => exact ⟨0, Nat.zero_le _, rfl, Fr.refl _ _⟩
          case round =>
            obtain ⟨k, hk, rfl, hq⟩ := hrel
            obtain ⟨wp, rfl⟩ : ∃ wp : World, wp = wr := ⟨_, rfl⟩
            by_cases hlt : k < m
            · obtain ⟨X, c', hgc, hgx⟩ := hG.cells hlt
              have hNk := hN k hlt
              have hgc2 := (hq.cell (p := ⟨gg, k, none⟩) (World.block_lt_of_cell? _ _ hgc) (fun h => h)).trans hgc
              have HGX := Lib.hid hgx
              clear hgc hgx
              have hi0 : (k : Int) < (m : Int) := by omega
              go_wp2_with fail
              go_loopw [10] (fun i wx => KnownNw wp (N k + 64) i wx) (fun i _ => N k + 64 - (intOf i).toNat)
              case atStart => exact ⟨0, Nat.zero_le _, rfl, Fr.refl _ _⟩
              case round =>
                obtain ⟨j, hj, rfl, hq2⟩ := hrel
                have hgc3 := (hq2.cell (p := ⟨gg, k, none⟩) (World.block_lt_of_cell? _ _ hgc2) (fun h => h)).trans hgc2
                by_cases hltj : j < N k + 64
                · obtain ⟨g, rfl, hcx⟩ := grown_cells (z := 20) (l := mkLL k j) rfl (by omega) HGX.out (conA_at hmkl N k j hltj)
                  have hcx2 := cells_nw hcx (hq.tr hq2)
                  obtain ⟨b, o, rfl, hF, hc⟩ := ((hs.fr hfo h0).fr (hq.tr hq2) (fun _ _ h => h)).hdr hlt
                  have hmk : ∀ n : Later wr, _ := fun n => markLetter_any n.at_ k j (by omega) (by omega)
                  have hsm : ∀ n : Later wr, Calls Tryz.prog 38 #[.agg (letA (mkLe k j)), .agg (letA (mkLe k j))] n.at_ fun e w' => e = .returned (.bool true) ∧ Nw n.at_ w' := fun n =>
                    (same_let n.at_ (fun _ => False) (fun _ => False) (mkLe k j) (mkLe k j) (LetIn.mark _ _ _ _) (LetIn.mark _ _ _ _) LetSz.zero').mono fun e w' h => ⟨by simpa using h.1, h.2⟩
                  have hlk := fun (h : j < N k) => (hrow.nw (hq.tr hq2)).cell hmkl hlt h
                  have hMK : mkLL k j = letL (mkLe k j) := rfl
                  rw [hMK] at hcx2 hlk
                  obtain ⟨x, hxx⟩ : ∃ x, mkLe k j = x := ⟨_, rfl⟩
                  rw [hxx] at hmk hsm hcx2 hlk
                  have HMK := Lib.hid hmk
                  have HSM := Lib.hid hsm
                  have HLK := Lib.hid hlk
                  have L1 := Lib.hid (Later.cells hcx2)
                  clear hmk hsm hcx hcx2 hlk hMK hxx
                  have hi1 : (j : Int) < (N k : Int) + 64 := by omega
                  have hi4 : decide ((j : Int) < (N k : Int) + 64) = true := decide_eq_true hi1
                  have hi5 : decide (j < N k + 64) = true := decide_eq_true hltj
                  have d1 := fun (n : Later wr) => n.cell hgc3
                  have d3 := fun (n : Later wr) => n.cell hc
                  by_cases hjk : j < N k
                  · obtain ⟨g2, hA2, hcl⟩ := HLK.out hjk
                    rw [hA2] at d3
                    have L2 := Lib.hid (Later.cells hcl)
                    have hi2 : (j : Int) < (N k : Int) := by omega
                    have hi6 : decide ((j : Int) < (N k : Int)) = true := decide_eq_true hi2
                    have hi7 : decide (j < N k) = true := decide_eq_true hjk
                    clear hcl hc HLK
                    go_wp2_with fail
                    refine wp_region_later (by kernel_rfl) (by kernel_rfl) ?_
                    iterate 6 (go_big_quiet_step (fail))
                    refine quiet_load_cells (by kernel_rfl) 50 _ rfl g (j * 20) rfl _ _ L1.out Tryz.underlying50 rfl (by kernel_rfl) ?_
                    simp only [Act.put, List.setIfInBounds_toArray, List.set_cons_succ, List.set_cons_zero]
                    iterate 20 (go_big_quiet_step ((first | (go_at_call 65; exact Later.call (HMK.out _)) | (go_at_call 38; exact Later.call (HSM.out _)))))
                    refine quiet_load_cells (by kernel_rfl) 50 _ rfl g2 (j * 20) rfl _ _ L2.out Tryz.underlying50 rfl (by kernel_rfl) ?_
                    simp only [Act.put, List.setIfInBounds_toArray, List.set_cons_succ, List.set_cons_zero]
                    repeat (go_big_quiet_step ((first | (go_at_call 65; exact Later.call (HMK.out _)) | (go_at_call 38; exact Later.call (HSM.out _)))))
                    refine wpQuiet_later fun w5 q5 => ?_
                    clear d1 d3
                    go_wp2_with fail
                    go_roundw
                    case rel => exact ⟨j + 1, by omega, by go_num, hq2.tr q5⟩
                    case measure => simp [intOf]; omega
                  · have hi2 : decide ((j : Int) < (N k : Int)) = false := decide_eq_false (by omega)
                    have hi3 : decide (j < N k) = false := decide_eq_false (by omega)
                    clear hc HLK
                    go_wp2_with fail
                    refine wp_region_later (by kernel_rfl) (by kernel_rfl) ?_
                    iterate 6 (go_big_quiet_step (fail))
                    refine quiet_load_cells (by kernel_rfl) 50 _ rfl g (j * 20) rfl _ _ L1.out Tryz.underlying50 rfl (by kernel_rfl) ?_
                    simp only [Act.put, List.setIfInBounds_toArray, List.set_cons_succ, List.set_cons_zero]
                    repeat (go_big_quiet_step ((first | (go_at_call 65; exact Later.call (HMK.out _)) | (go_at_call 38; exact Later.call (HSM.out _)))))
                    refine wpQuiet_later fun w5 q5 => ?_
                    clear d1 d3
                    go_wp2_with fail
                    go_roundw
                    case rel => exact ⟨j + 1, by omega, by go_num, hq2.tr q5⟩
                    case measure => simp [intOf]; omega
                · obtain rfl : j = N k + 64 := by omega
                  go_wp2_with fail
                  go_roundw
                  case rel => exact ⟨k + 1, by omega, by go_num, hq.tr hq2⟩
                  case measure => simp [intOf]; omega
            · obtain rfl : m = k := by omega
              obtain ⟨cells, hgo⟩ := hG.own
              have hgo2 := hgo.fr hq (fun _ _ h => h)
              have hrow2 := hrow.nw hq
              have hfo2 := hfo.tr (Nw.on hq)
              have hA2 : FlG mkLL 50 28 20 w m A N cp gg (conB mkLL m N) 0 wp := ⟨cells, fun _ => none, fun _ => 0, hgo2, fun _ h => by omega, fun _ h => by omega, fun _ h => by omega, hrow2, hfo2⟩
              clear hG hrow hfo hgo hgo2 hrow2 hfo2 hq
              go_wp2_with fail
              go_loopw [11] (fun i wx => FlGo mkLL 50 28 20 w m A N cp gg (conB mkLL m N) i wx) (fun i _ => m - (intOf i).toNat)
              case atStart => exact ⟨0, Nat.zero_le _, rfl, hA2⟩
              case round =>
                clear hA2
                obtain ⟨k, hk, rfl, hG⟩ := hrel
                obtain ⟨wo, rfl⟩ : ∃ wo : World, wo = wr := ⟨_, rfl⟩
                have hrow := hG.rows
                have hfo := hG.fr
                by_cases hlt : k < m
                · obtain ⟨b, o, rfl, hF, hc⟩ := (hs.fr hfo h0).hdr hlt
                  have hNk := hN k hlt
                  have hAk : ∀ b, inA (hom (A k) (cp k)) b → b < wo.heap.size := fun b hb => (hrow k hlt).lt b hb
                  have hbl := World.block_lt_of_cell? _ _ hc
                  go_wp2_with (at_make; refine wl_makeZ rfl _ _ _ rfl 256 (.agg #[U8V 0, I64 0, I64 0, I64 0, I64 0, I64 0, I64 0, I64 0, .bool false, .slice none 0 0, I64 0, I64 0, .slice none 0 0, .slice none 0 0, .slice none 0 0, .slice none 0 0, I64 0, I64 0, I64 0, .slice none 0 0]) Tryz.underlying28 info_eL .i64 .i64 _ _ 64 rfl rfl rfl rfl (by omega) (by unfold maxLen; omega) ?_; intro wy csy hoy qy)
                  obtain ⟨gm, hgm⟩ : ∃ gm, wo.heap.size = gm := ⟨_, rfl⟩
                  have hgm2 : wo.heap.size ≤ gm := Nat.le_of_eq hgm
                  rw [hgm] at hoy ⊢
                  clear hgm
                  have HOY := Lib.hid hoy
                  clear hoy
                  go_wp2_with fail
                  go_loopw [13] (fun i wx => ManyL mkLL 50 20 (k + m) gm wy i wx) (fun i _ => 64 - (intOf i).toNat)
                  case atStart => exact ⟨0, csy, by omega, rfl, HOY.out, (by simp [mksL]), Fr.refl _ _⟩
                  case round =>
                    obtain ⟨j, cs, hj, rfl, hom_, ht, hfm⟩ := hrel
                    have HT := Lib.hid ht
                    clear ht HOY
                    have hcl : cs.length = 64 * 20 := hom_.1
                    have HCL := Lib.hid hcl
                    clear hcl
                    by_cases hltj : j < 64
                    · have hmk := fun w => markLetter_any w (k + m) j (by omega) (by omega)
                      have hju : ((k + m : Nat) : Int) = (k : Int) + (m : Int) := by omega
                      rw [hju] at hmk
                      have hnx : ∀ w1, Nw wr w1 → ∀ w', w' = w1.setCells gm (j * 20) (letL (mkLe (k + m) j)) → ManyL mkLL 50 20 (k + m) gm wy (.int .i64 ((j : Int) + 1)) w' := fun w1 q w' h => ManyL.next (w' := w') hmkl (hom_.fr q (fun _ _ h => h)) HT.out (hfm.tr (Nw.on q)) hltj h
                      have hth : ∀ w', Nw wr w' → w'.there gm (j * 20) 20 := fun w' q => (hom_.fr q (fun _ _ h => h)).thereAt hltj
                      obtain ⟨x, hxx⟩ : ∃ x, mkLe (k + m) j = x := ⟨_, rfl⟩
                      rw [hxx] at hmk hnx
                      have hone := letA_one x
                      have HMK := Lib.hid hmk
                      have HNX := Lib.hid hnx
                      have HTH := Lib.hid hth
                      clear hmk hnx hju hth hxx
                      have hi0 : (j : Int) < 64 := by omega
                      have hi1 : decide ((j : Int) < 64) = true := decide_eq_true hi0
                      have hi2 : decide (j < 64) = true := decide_eq_true hltj
                      go_wp2_with fail
                      refine (HMK.out _).mono ?_
                      rintro e w5 ⟨rfl, q5⟩
                      have hth5 := HTH.out w5 q5
                      have hw5 : ∀ w', w' = w5.setCells gm (j * 20) (letA x).toList → w' = w5.setCells gm (j * 20) (letL x) := fun w' h => h
                      obtain ⟨w6, hw6⟩ : ∃ w', w' = w5.setCells gm (j * 20) (letA x).toList := ⟨_, rfl⟩
                      have h6 := HNX.out w5 q5 w6 (hw5 w6 hw6)
                      have H6 := Lib.hid h6
                      have HW6 := Lib.hid hw6
                      clear hw6 hw5 h6
                      go_wp2_with (refine wpList_store_mid rfl 50 _ _ rfl gm (j * 20) (letA x) rfl rfl hth5 (by kernel_rfl) hone ?_; rw [← HW6.out])
                      refine ⟨H6.out, ?_⟩
                      simp [intOf]
                      omega
                    · obtain rfl : j = 64 := by omega
                      have hcs : cs = mksL mkLL (k + m) 64 := by
                        have := HT.out
                        rwa [List.take_of_length_le (by rw [HCL.out]; omega)] at this
                      subst hcs
                      clear HT HCL
                      have hx0 : FlX mkLL 50 20 A N cp k wo (mksL mkLL k (N k)) (A k) (N k) (cp k) wr := by
                        have hf9 : Fr (inA (hom (A k) (cp k))) wo wr := (Nw.on qy).trans hfm (fun j hj => .inr (by rw [hj]; exact hgm2))
                        have ho9 := ((hrow k hlt).fr qy (fun _ _ h => h)).fr hfm (fun j hj e => by have := hAk j hj; omega)
                        exact ⟨hf9, ho9, .inl ⟨rfl, rfl⟩, ho9⟩
                      have hFk : ¬ inA (hom (A k) (cp k)) b := fun h => h0 b hF ⟨k, hlt, h⟩
                      have hcx := (hx0.1.cell (p := ⟨b, o + k, none⟩) hbl hFk).trans hc
                      have hnx := fun (w' : World) (A' : Option Addr) (cap' : Nat) (h : AppC wr 50 20 (A k) (N k) (cp k) 64 (mksL mkLL k (N k)) (mksL mkLL (k + m) 64) A' cap' w') =>
                        FlX.next hx0 (Fr.refl _ _) (by omega) (mksL_len hmkl _ _) (Nat.le_refl _) (mksL_take hmkl _ _ _ (Nat.le_refl _)) hAk h
                      have hXo := hx0.2.1
                      have hml : (mksL mkLL (k + m) 64).length = 64 * 20 := mksL_len hmkl _ _
                      have hcm : ∀ u ∈ mksL mkLL (k + m) 64, u.oneCell' = true := by
                        intro u hu
                        obtain ⟨l, hl, hu⟩ := List.mem_flatten.1 hu
                        obtain ⟨i, _, rfl⟩ := List.mem_map.1 hl
                        exact letL_cell _ u hu
                      have HCM := Lib.hid hcm
                      have HML := Lib.hid hml
                      clear hml hc hcm
                      obtain ⟨cells2, hgo⟩ := hG.own
                      have hng : ∀ j, inA (some ⟨gg, 0, none⟩) j → ¬ inA (hom (A k) (cp k)) j := fun j hj h => by
                        rw [(inA_some _ _).1 hj] at h
                        obtain ⟨cur0, hbg, _⟩ := hgo.blk
                        exact (hrow k hlt).offB hbg (by decide) h
                      have hfin : ∀ (A' : Option Addr) (cap' : Nat) (w4 : World), AppC wr 50 20 (A k) (N k) (cp k) 64 (mksL mkLL k (N k)) (mksL mkLL (k + m) 64) A' cap' w4 →
                          (∃ u, w4.cell? ⟨gg, k, none⟩ = some u) ∧ w4.frozen? ⟨gg, k, none⟩ = false ∧ FlGo mkLL 50 28 20 w m A N cp gg (conB mkLL m N) (.int .i64 ((k : Int) + 1)) (w4.setCell ⟨gg, k, none⟩ (.slice A' (N k + 64) cap')) := fun A' cap' w4 hap => by
                        have hx4 := hnx w4 A' cap' hap
                        have hgo4 := hgo.fr hx4.1 hng
                        exact ⟨hgo4.cellEx (by omega), hgo4.frozenAt k, k + 1, by omega, by go_num, FlG.next (EE := 28) (by decide) (by omega) hG hsz1 hr hfar hlt hx4 rfl⟩
                      have HFIN := Lib.hid hfin
                      have hsl := hom_.sl
                      have HG2 := Lib.hid hG
                      have HR2 := Lib.hid hr
                      have HX0 := Lib.hid hx0
                      obtain ⟨con, hcon⟩ : ∃ con, mksL mkLL k (N k) = con := ⟨_, rfl⟩
                      obtain ⟨news, hnews⟩ : ∃ con, mksL mkLL (k + m) 64 = con := ⟨_, rfl⟩
                      rw [hcon] at hXo HFIN
                      rw [hnews] at hsl HML HCM HFIN
                      clear hcon hnews hnx hng hfin hG hr hx0
                      have hi0 : (k : Int) < (m : Int) := by omega
                      go_wp2_with (at_builtin; refine wl_appendC rfl _ _ _ rfl 256 (.agg #[U8V 0, I64 0, I64 0, I64 0, I64 0, I64 0, I64 0, I64 0, .bool false, .slice none 0 0, I64 0, I64 0, .slice none 0 0, .slice none 0 0, .slice none 0 0, .slice none 0 0, I64 0, I64 0, I64 0, .slice none 0 0]) Tryz.underlying28 info_eL rfl (by decide) rfl hXo rfl hsl HML.out HCM.out (by omega) (by unfold maxLen; omega) (by omega) ?_; intro A' cap' w4 hap; obtain ⟨⟨u, hcu⟩, hfz, hrel9⟩ := HFIN.out A' cap' w4 hap; have HREL := Lib.hid hrel9; clear hrel9)
                      go_roundw
                      case rel => exact HREL.out
                      case measure => simp [intOf]; omega
                · obtain rfl : m = k := by omega
                  go_wp2_with fail
                  go_loopw [14] (fun i wx => KnownNw wo m i wx) (fun i _ => m - (intOf i).toNat)
                  case atStart => exact ⟨0, Nat.zero_le _, rfl, Fr.refl _ _⟩
                  case round =>
                    obtain ⟨k, hk, rfl, hq⟩ := hrel
                    obtain ⟨wp, rfl⟩ : ∃ wp : World, wp = wr := ⟨_, rfl⟩
                    by_cases hlt : k < m
                    · obtain ⟨X, c', hgc, hgx⟩ := hG.cells hlt
                      have hNk := hN k hlt
                      have HGX := Lib.hid hgx
                      clear hgx
                      have hi0 : (k : Int) < (m : Int) := by omega
                      have hs5 := hs.fr hfo h0
                      obtain ⟨b, o, rfl, hF, hc⟩ := hs5.hdr hlt
                      have hcp := (hq.cell (p := ⟨b, o + k, none⟩) (World.block_lt_of_cell? _ _ hc) (fun h => h)).trans hc
                      go_wp2_with fail
                      go_loopw [15] (fun i wx => KnownNw wp (N k) i wx) (fun i _ => N k - (intOf i).toNat)
                      case atStart => exact ⟨0, Nat.zero_le _, rfl, Fr.refl _ _⟩
                      case round =>
                        obtain ⟨j, hj, rfl, hq2⟩ := hrel
                        have hcr := (hq2.cell (p := ⟨b, o + k, none⟩) (World.block_lt_of_cell? _ _ hcp) (fun h => h)).trans hcp
                        by_cases hltj : j < N k
                        · obtain ⟨g, rfl, hcx⟩ := grown_cells (z := 20) (l := mkLL k j) rfl (by omega) HGX.out (conB_at' hmkl m N k j hltj)
                          have hcx2 := cells_nw hcx (hq.tr hq2)
                          have hgc2 := ((hq.tr hq2).cell (p := ⟨gg, k, none⟩) (World.block_lt_of_cell? _ _ hgc) (fun h => h)).trans hgc
                          have hmk : ∀ n : Later wr, _ := fun n => markLetter_any n.at_ k j (by omega) (by omega)
                          have hsm : ∀ n : Later wr, Calls Tryz.prog 38 #[.agg (letA (mkLe k j)), .agg (letA (mkLe k j))] n.at_ fun e w' => e = .returned (.bool true) ∧ Nw n.at_ w' := fun n =>
                            (same_let n.at_ (fun _ => False) (fun _ => False) (mkLe k j) (mkLe k j) (LetIn.mark _ _ _ _) (LetIn.mark _ _ _ _) LetSz.zero').mono fun e w' h => ⟨by simpa using h.1, h.2⟩
                          obtain ⟨g2, hA2, hcl⟩ := (hrow.nw (hq.tr hq2)).cell hmkl hlt hltj
                          have hMK : mkLL k j = letL (mkLe k j) := rfl
                          rw [hMK] at hcx2 hcl
                          obtain ⟨x, hxx⟩ : ∃ x, mkLe k j = x := ⟨_, rfl⟩
                          rw [hxx] at hmk hsm hcx2 hcl
                          have HMK := Lib.hid hmk
                          have HSM := Lib.hid hsm
                          have L1 := Lib.hid (Later.cells hcx2)
                          have L2 := Lib.hid (Later.cells hcl)
                          rw [hA2] at hcr
                          have d1 := fun (n : Later wr) => n.cell hgc2
                          have d3 := fun (n : Later wr) => n.cell hcr
                          clear hmk hsm hcx hcx2 hcl hMK hxx hgc hc hcp
                          have hi1 : (j : Int) < (N k : Int) + 64 := by omega
                          have hi2 : (j : Int) < (N k : Int) := by omega
                          have hi6 : decide ((j : Int) < (N k : Int)) = true := decide_eq_true hi2
                          have hi7 : decide (j < N k) = true := decide_eq_true hltj
                          have hi8 : decide ((j : Int) < (N k : Int) + 64) = true := decide_eq_true hi1
                          have hi9 : decide (j < N k + 64) = true := decide_eq_true (by omega)
                          go_wp2_with fail
                          refine wp_region_later (by kernel_rfl) (by kernel_rfl) ?_
                          iterate 6 (go_big_quiet_step (fail))
                          refine quiet_load_cells (by kernel_rfl) 50 _ rfl g2 (j * 20) rfl _ _ L2.out Tryz.underlying50 rfl (by kernel_rfl) ?_
                          simp only [Act.put, List.setIfInBounds_toArray, List.set_cons_succ, List.set_cons_zero]
                          iterate 12 (go_big_quiet_step ((first | (go_at_call 65; exact Later.call (HMK.out _)) | (go_at_call 38; exact Later.call (HSM.out _)))))
                          refine quiet_load_cells (by kernel_rfl) 50 _ rfl g (j * 20) rfl _ _ L1.out Tryz.underlying50 rfl (by kernel_rfl) ?_
                          simp only [Act.put, List.setIfInBounds_toArray, List.set_cons_succ, List.set_cons_zero]
                          repeat (go_big_quiet_step ((first | (go_at_call 65; exact Later.call (HMK.out _)) | (go_at_call 38; exact Later.call (HSM.out _)))))
                          refine wpQuiet_later fun w5 q5 => ?_
                          clear d1 d3
                          go_wp2_with fail
                          go_roundw
                          case rel => exact ⟨j + 1, by omega, by go_num, hq2.tr q5⟩
                          case measure => simp [intOf]; omega
                        · obtain rfl : j = N k := by omega
                          go_wp2_with fail
                          go_roundw
                          case rel => exact ⟨k + 1, by omega, by go_num, hq.tr hq2⟩
                          case measure => simp [intOf]; omega
                    · go_wp2_with fail
                      go_ret
                      exact ⟨rfl, hfo.tr (Nw.on hq)⟩
end Go.Proofs.YtippdjaakcgeoaaGreat

namespace Go.Proofs.YtippdjaakcgeoaaGreat
open Go Go.RowKit

theorem mkNilLimbs (w : World) : (Instr.makeSlice 94 (.int .i64 0) (.int .i64 0)).run Tryz.prog w = .ok (.slice (some ⟨w.heap.size, 0, none⟩) 0 0) (w.alloc (.cells #[] (Tryz.prog.elem 94))) := by kernel_rfl
set_option maxRecDepth 100000 in
theorem flatNilLimbs (w : World) : Calls Tryz.prog 109 #[.slice none 0 0] w fun e w' => e = .returned (.bool true) ∧ Nw w w' := by
  have hmk := fun w => mkNilLimbs w
  go_enter Tryz.func109, Tryz.ntmps109
  go_wp2_with fail
  refine wp_loop_rounds 1 ?_
  rw [rounds_succ]
  go_wp2_with fail
  refine wp_loop_rounds 1 ?_
  rw [rounds_succ]
  go_wp2_with fail
  refine wp_loop_rounds 1 ?_
  rw [rounds_succ]
  go_wp2_with fail
  refine wp_loop_rounds 1 ?_
  rw [rounds_succ]
  go_wp2_with fail
  refine wp_loop_rounds 1 ?_
  rw [rounds_succ]
  go_wp2_with fail
  go_ret
  exact ⟨rfl, (Fr.refl _ w).alloc _⟩

theorem mkNilWords (w : World) : (Instr.makeSlice 95 (.int .i64 0) (.int .i64 0)).run Tryz.prog w = .ok (.slice (some ⟨w.heap.size, 0, none⟩) 0 0) (w.alloc (.cells #[] (Tryz.prog.elem 95))) := by kernel_rfl
set_option maxRecDepth 100000 in
theorem flatNilWords (w : World) : Calls Tryz.prog 110 #[.slice none 0 0] w fun e w' => e = .returned (.bool true) ∧ Nw w w' := by
  have hmk := fun w => mkNilWords w
  go_enter Tryz.func110, Tryz.ntmps110
  go_wp2_with fail
  refine wp_loop_rounds 1 ?_
  rw [rounds_succ]
  go_wp2_with fail
  refine wp_loop_rounds 1 ?_
  rw [rounds_succ]
  go_wp2_with fail
  refine wp_loop_rounds 1 ?_
  rw [rounds_succ]
  go_wp2_with fail
  refine wp_loop_rounds 1 ?_
  rw [rounds_succ]
  go_wp2_with fail
  refine wp_loop_rounds 1 ?_
  rw [rounds_succ]
  go_wp2_with fail
  go_ret
  exact ⟨rfl, (Fr.refl _ w).alloc _⟩

theorem mkNilLongs (w : World) : (Instr.makeSlice 97 (.int .i64 0) (.int .i64 0)).run Tryz.prog w = .ok (.slice (some ⟨w.heap.size, 0, none⟩) 0 0) (w.alloc (.cells #[] (Tryz.prog.elem 97))) := by kernel_rfl
set_option maxRecDepth 100000 in
theorem flatNilLongs (w : World) : Calls Tryz.prog 112 #[.slice none 0 0] w fun e w' => e = .returned (.bool true) ∧ Nw w w' := by
  have hmk := fun w => mkNilLongs w
  go_enter Tryz.func112, Tryz.ntmps112
  go_wp2_with fail
  refine wp_loop_rounds 1 ?_
  rw [rounds_succ]
  go_wp2_with fail
  refine wp_loop_rounds 1 ?_
  rw [rounds_succ]
  go_wp2_with fail
  refine wp_loop_rounds 1 ?_
  rw [rounds_succ]
  go_wp2_with fail
  refine wp_loop_rounds 1 ?_
  rw [rounds_succ]
  go_wp2_with fail
  refine wp_loop_rounds 1 ?_
  rw [rounds_succ]
  go_wp2_with fail
  go_ret
  exact ⟨rfl, (Fr.refl _ w).alloc _⟩

theorem mkNilTexts (w : World) : (Instr.makeSlice 98 (.int .i64 0) (.int .i64 0)).run Tryz.prog w = .ok (.slice (some ⟨w.heap.size, 0, none⟩) 0 0) (w.alloc (.cells #[] (Tryz.prog.elem 98))) := by kernel_rfl
set_option maxRecDepth 100000 in
theorem flatNilTexts (w : World) : Calls Tryz.prog 113 #[.slice none 0 0] w fun e w' => e = .returned (.bool true) ∧ Nw w w' := by
  have hmk := fun w => mkNilTexts w
  go_enter Tryz.func113, Tryz.ntmps113
  go_wp2_with fail
  refine wp_loop_rounds 1 ?_
  rw [rounds_succ]
  go_wp2_with fail
  refine wp_loop_rounds 1 ?_
  rw [rounds_succ]
  go_wp2_with fail
  refine wp_loop_rounds 1 ?_
  rw [rounds_succ]
  go_wp2_with fail
  refine wp_loop_rounds 1 ?_
  rw [rounds_succ]
  go_wp2_with fail
  refine wp_loop_rounds 1 ?_
  rw [rounds_succ]
  go_wp2_with fail
  go_ret
  exact ⟨rfl, (Fr.refl _ w).alloc _⟩

theorem mkNilTruths (w : World) : (Instr.makeSlice 99 (.int .i64 0) (.int .i64 0)).run Tryz.prog w = .ok (.slice (some ⟨w.heap.size, 0, none⟩) 0 0) (w.alloc (.cells #[] (Tryz.prog.elem 99))) := by kernel_rfl
set_option maxRecDepth 100000 in
theorem flatNilTruths (w : World) : Calls Tryz.prog 115 #[.slice none 0 0] w fun e w' => e = .returned (.bool true) ∧ Nw w w' := by
  have hmk := fun w => mkNilTruths w
  go_enter Tryz.func115, Tryz.ntmps115
  go_wp2_with fail
  refine wp_loop_rounds 1 ?_
  rw [rounds_succ]
  go_wp2_with fail
  refine wp_loop_rounds 1 ?_
  rw [rounds_succ]
  go_wp2_with fail
  refine wp_loop_rounds 1 ?_
  rw [rounds_succ]
  go_wp2_with fail
  refine wp_loop_rounds 1 ?_
  rw [rounds_succ]
  go_wp2_with fail
  refine wp_loop_rounds 1 ?_
  rw [rounds_succ]
  go_wp2_with fail
  go_ret
  exact ⟨rfl, (Fr.refl _ w).alloc _⟩

theorem mkNilSpans (w : World) : (Instr.makeSlice 100 (.int .i64 0) (.int .i64 0)).run Tryz.prog w = .ok (.slice (some ⟨w.heap.size, 0, none⟩) 0 0) (w.alloc (.cells #[] (Tryz.prog.elem 100))) := by kernel_rfl
set_option maxRecDepth 100000 in
theorem flatNilSpans (w : World) : Calls Tryz.prog 116 #[.slice none 0 0] w fun e w' => e = .returned (.bool true) ∧ Nw w w' := by
  have hmk := fun w => mkNilSpans w
  go_enter Tryz.func116, Tryz.ntmps116
  go_wp2_with fail
  refine wp_loop_rounds 1 ?_
  rw [rounds_succ]
  go_wp2_with fail
  refine wp_loop_rounds 1 ?_
  rw [rounds_succ]
  go_wp2_with fail
  refine wp_loop_rounds 1 ?_
  rw [rounds_succ]
  go_wp2_with fail
  refine wp_loop_rounds 1 ?_
  rw [rounds_succ]
  go_wp2_with fail
  refine wp_loop_rounds 1 ?_
  rw [rounds_succ]
  go_wp2_with fail
  go_ret
  exact ⟨rfl, (Fr.refl _ w).alloc _⟩

theorem mkNilShareRows (w : World) : (Instr.makeSlice 101 (.int .i64 0) (.int .i64 0)).run Tryz.prog w = .ok (.slice (some ⟨w.heap.size, 0, none⟩) 0 0) (w.alloc (.cells #[] (Tryz.prog.elem 101))) := by kernel_rfl
set_option maxRecDepth 100000 in
theorem flatNilShareRows (w : World) : Calls Tryz.prog 117 #[.slice none 0 0] w fun e w' => e = .returned (.bool true) ∧ Nw w w' := by
  have hmk := fun w => mkNilShareRows w
  go_enter Tryz.func117, Tryz.ntmps117
  go_wp2_with fail
  refine wp_loop_rounds 1 ?_
  rw [rounds_succ]
  go_wp2_with fail
  refine wp_loop_rounds 1 ?_
  rw [rounds_succ]
  go_wp2_with fail
  refine wp_loop_rounds 1 ?_
  rw [rounds_succ]
  go_wp2_with fail
  refine wp_loop_rounds 1 ?_
  rw [rounds_succ]
  go_wp2_with fail
  refine wp_loop_rounds 1 ?_
  rw [rounds_succ]
  go_wp2_with fail
  go_ret
  exact ⟨rfl, (Fr.refl _ w).alloc _⟩

theorem mkNilSharesRows (w : World) : (Instr.makeSlice 102 (.int .i64 0) (.int .i64 0)).run Tryz.prog w = .ok (.slice (some ⟨w.heap.size, 0, none⟩) 0 0) (w.alloc (.cells #[] (Tryz.prog.elem 102))) := by kernel_rfl
set_option maxRecDepth 100000 in
theorem flatNilSharesRows (w : World) : Calls Tryz.prog 118 #[.slice none 0 0] w fun e w' => e = .returned (.bool true) ∧ Nw w w' := by
  have hmk := fun w => mkNilSharesRows w
  go_enter Tryz.func118, Tryz.ntmps118
  go_wp2_with fail
  refine wp_loop_rounds 1 ?_
  rw [rounds_succ]
  go_wp2_with fail
  refine wp_loop_rounds 1 ?_
  rw [rounds_succ]
  go_wp2_with fail
  refine wp_loop_rounds 1 ?_
  rw [rounds_succ]
  go_wp2_with fail
  refine wp_loop_rounds 1 ?_
  rw [rounds_succ]
  go_wp2_with fail
  refine wp_loop_rounds 1 ?_
  rw [rounds_succ]
  go_wp2_with fail
  go_ret
  exact ⟨rfl, (Fr.refl _ w).alloc _⟩

theorem mkNilNames (w : World) : (Instr.makeSlice 103 (.int .i64 0) (.int .i64 0)).run Tryz.prog w = .ok (.slice (some ⟨w.heap.size, 0, none⟩) 0 0) (w.alloc (.cells #[] (Tryz.prog.elem 103))) := by kernel_rfl
set_option maxRecDepth 100000 in
theorem flatNilNames (w : World) : Calls Tryz.prog 119 #[.slice none 0 0] w fun e w' => e = .returned (.bool true) ∧ Nw w w' := by
  have hmk := fun w => mkNilNames w
  go_enter Tryz.func119, Tryz.ntmps119
  go_wp2_with fail
  refine wp_loop_rounds 1 ?_
  rw [rounds_succ]
  go_wp2_with fail
  refine wp_loop_rounds 1 ?_
  rw [rounds_succ]
  go_wp2_with fail
  refine wp_loop_rounds 1 ?_
  rw [rounds_succ]
  go_wp2_with fail
  refine wp_loop_rounds 1 ?_
  rw [rounds_succ]
  go_wp2_with fail
  refine wp_loop_rounds 1 ?_
  rw [rounds_succ]
  go_wp2_with fail
  go_ret
  exact ⟨rfl, (Fr.refl _ w).alloc _⟩

theorem mkNilActs (w : World) : (Instr.makeSlice 104 (.int .i64 0) (.int .i64 0)).run Tryz.prog w = .ok (.slice (some ⟨w.heap.size, 0, none⟩) 0 0) (w.alloc (.cells #[] (Tryz.prog.elem 104))) := by kernel_rfl
set_option maxRecDepth 100000 in
theorem flatNilActs (w : World) : Calls Tryz.prog 120 #[.slice none 0 0] w fun e w' => e = .returned (.bool true) ∧ Nw w w' := by
  have hmk := fun w => mkNilActs w
  go_enter Tryz.func120, Tryz.ntmps120
  go_wp2_with fail
  refine wp_loop_rounds 1 ?_
  rw [rounds_succ]
  go_wp2_with fail
  refine wp_loop_rounds 1 ?_
  rw [rounds_succ]
  go_wp2_with fail
  refine wp_loop_rounds 1 ?_
  rw [rounds_succ]
  go_wp2_with fail
  refine wp_loop_rounds 1 ?_
  rw [rounds_succ]
  go_wp2_with fail
  refine wp_loop_rounds 1 ?_
  rw [rounds_succ]
  go_wp2_with fail
  go_ret
  exact ⟨rfl, (Fr.refl _ w).alloc _⟩

theorem mkNilReads (w : World) : (Instr.makeSlice 105 (.int .i64 0) (.int .i64 0)).run Tryz.prog w = .ok (.slice (some ⟨w.heap.size, 0, none⟩) 0 0) (w.alloc (.cells #[] (Tryz.prog.elem 105))) := by kernel_rfl
set_option maxRecDepth 100000 in
theorem flatNilReads (w : World) : Calls Tryz.prog 121 #[.slice none 0 0] w fun e w' => e = .returned (.bool true) ∧ Nw w w' := by
  have hmk := fun w => mkNilReads w
  go_enter Tryz.func121, Tryz.ntmps121
  go_wp2_with fail
  refine wp_loop_rounds 1 ?_
  rw [rounds_succ]
  go_wp2_with fail
  refine wp_loop_rounds 1 ?_
  rw [rounds_succ]
  go_wp2_with fail
  refine wp_loop_rounds 1 ?_
  rw [rounds_succ]
  go_wp2_with fail
  refine wp_loop_rounds 1 ?_
  rw [rounds_succ]
  go_wp2_with fail
  refine wp_loop_rounds 1 ?_
  rw [rounds_succ]
  go_wp2_with fail
  go_ret
  exact ⟨rfl, (Fr.refl _ w).alloc _⟩

theorem mkNilLines (w : World) : (Instr.makeSlice 106 (.int .i64 0) (.int .i64 0)).run Tryz.prog w = .ok (.slice (some ⟨w.heap.size, 0, none⟩) 0 0) (w.alloc (.cells #[] (Tryz.prog.elem 106))) := by kernel_rfl
set_option maxRecDepth 100000 in
theorem flatNilLines (w : World) : Calls Tryz.prog 122 #[.slice none 0 0] w fun e w' => e = .returned (.bool true) ∧ Nw w w' := by
  have hmk := fun w => mkNilLines w
  go_enter Tryz.func122, Tryz.ntmps122
  go_wp2_with fail
  refine wp_loop_rounds 1 ?_
  rw [rounds_succ]
  go_wp2_with fail
  refine wp_loop_rounds 1 ?_
  rw [rounds_succ]
  go_wp2_with fail
  refine wp_loop_rounds 1 ?_
  rw [rounds_succ]
  go_wp2_with fail
  refine wp_loop_rounds 1 ?_
  rw [rounds_succ]
  go_wp2_with fail
  refine wp_loop_rounds 1 ?_
  rw [rounds_succ]
  go_wp2_with fail
  go_ret
  exact ⟨rfl, (Fr.refl _ w).alloc _⟩

theorem mkNilHolds (w : World) : (Instr.makeSlice 107 (.int .i64 0) (.int .i64 0)).run Tryz.prog w = .ok (.slice (some ⟨w.heap.size, 0, none⟩) 0 0) (w.alloc (.cells #[] (Tryz.prog.elem 107))) := by kernel_rfl
set_option maxRecDepth 100000 in
theorem flatNilHolds (w : World) : Calls Tryz.prog 123 #[.slice none 0 0] w fun e w' => e = .returned (.bool true) ∧ Nw w w' := by
  have hmk := fun w => mkNilHolds w
  go_enter Tryz.func123, Tryz.ntmps123
  go_wp2_with fail
  refine wp_loop_rounds 1 ?_
  rw [rounds_succ]
  go_wp2_with fail
  refine wp_loop_rounds 1 ?_
  rw [rounds_succ]
  go_wp2_with fail
  refine wp_loop_rounds 1 ?_
  rw [rounds_succ]
  go_wp2_with fail
  refine wp_loop_rounds 1 ?_
  rw [rounds_succ]
  go_wp2_with fail
  refine wp_loop_rounds 1 ?_
  rw [rounds_succ]
  go_wp2_with fail
  go_ret
  exact ⟨rfl, (Fr.refl _ w).alloc _⟩

theorem mkNilConfigs (w : World) : (Instr.makeSlice 108 (.int .i64 0) (.int .i64 0)).run Tryz.prog w = .ok (.slice (some ⟨w.heap.size, 0, none⟩) 0 0) (w.alloc (.cells #[] (Tryz.prog.elem 108))) := by kernel_rfl
set_option maxRecDepth 100000 in
theorem flatNilConfigs (w : World) : Calls Tryz.prog 124 #[.slice none 0 0] w fun e w' => e = .returned (.bool true) ∧ Nw w w' := by
  have hmk := fun w => mkNilConfigs w
  go_enter Tryz.func124, Tryz.ntmps124
  go_wp2_with fail
  refine wp_loop_rounds 1 ?_
  rw [rounds_succ]
  go_wp2_with fail
  refine wp_loop_rounds 1 ?_
  rw [rounds_succ]
  go_wp2_with fail
  refine wp_loop_rounds 1 ?_
  rw [rounds_succ]
  go_wp2_with fail
  refine wp_loop_rounds 1 ?_
  rw [rounds_succ]
  go_wp2_with fail
  refine wp_loop_rounds 1 ?_
  rw [rounds_succ]
  go_wp2_with fail
  go_ret
  exact ⟨rfl, (Fr.refl _ w).alloc _⟩

theorem mkNilBases (w : World) : (Instr.makeSlice 110 (.int .i64 0) (.int .i64 0)).run Tryz.prog w = .ok (.slice (some ⟨w.heap.size, 0, none⟩) 0 0) (w.alloc (.cells #[] (Tryz.prog.elem 110))) := by kernel_rfl
set_option maxRecDepth 100000 in
theorem flatNilBases (w : World) : Calls Tryz.prog 126 #[.slice none 0 0] w fun e w' => e = .returned (.bool true) ∧ Nw w w' := by
  have hmk := fun w => mkNilBases w
  go_enter Tryz.func126, Tryz.ntmps126
  go_wp2_with fail
  refine wp_loop_rounds 1 ?_
  rw [rounds_succ]
  go_wp2_with fail
  refine wp_loop_rounds 1 ?_
  rw [rounds_succ]
  go_wp2_with fail
  refine wp_loop_rounds 1 ?_
  rw [rounds_succ]
  go_wp2_with fail
  refine wp_loop_rounds 1 ?_
  rw [rounds_succ]
  go_wp2_with fail
  refine wp_loop_rounds 1 ?_
  rw [rounds_succ]
  go_wp2_with fail
  go_ret
  exact ⟨rfl, (Fr.refl _ w).alloc _⟩

theorem mkNilImages (w : World) : (Instr.makeSlice 111 (.int .i64 0) (.int .i64 0)).run Tryz.prog w = .ok (.slice (some ⟨w.heap.size, 0, none⟩) 0 0) (w.alloc (.cells #[] (Tryz.prog.elem 111))) := by kernel_rfl
set_option maxRecDepth 100000 in
theorem flatNilImages (w : World) : Calls Tryz.prog 127 #[.slice none 0 0] w fun e w' => e = .returned (.bool true) ∧ Nw w w' := by
  have hmk := fun w => mkNilImages w
  go_enter Tryz.func127, Tryz.ntmps127
  go_wp2_with fail
  refine wp_loop_rounds 1 ?_
  rw [rounds_succ]
  go_wp2_with fail
  refine wp_loop_rounds 1 ?_
  rw [rounds_succ]
  go_wp2_with fail
  refine wp_loop_rounds 1 ?_
  rw [rounds_succ]
  go_wp2_with fail
  refine wp_loop_rounds 1 ?_
  rw [rounds_succ]
  go_wp2_with fail
  refine wp_loop_rounds 1 ?_
  rw [rounds_succ]
  go_wp2_with fail
  go_ret
  exact ⟨rfl, (Fr.refl _ w).alloc _⟩

theorem mkNilStretches (w : World) : (Instr.makeSlice 112 (.int .i64 0) (.int .i64 0)).run Tryz.prog w = .ok (.slice (some ⟨w.heap.size, 0, none⟩) 0 0) (w.alloc (.cells #[] (Tryz.prog.elem 112))) := by kernel_rfl
set_option maxRecDepth 100000 in
theorem flatNilStretches (w : World) : Calls Tryz.prog 129 #[.slice none 0 0] w fun e w' => e = .returned (.bool true) ∧ Nw w w' := by
  have hmk := fun w => mkNilStretches w
  go_enter Tryz.func129, Tryz.ntmps129
  go_wp2_with fail
  refine wp_loop_rounds 1 ?_
  rw [rounds_succ]
  go_wp2_with fail
  refine wp_loop_rounds 1 ?_
  rw [rounds_succ]
  go_wp2_with fail
  refine wp_loop_rounds 1 ?_
  rw [rounds_succ]
  go_wp2_with fail
  refine wp_loop_rounds 1 ?_
  rw [rounds_succ]
  go_wp2_with fail
  refine wp_loop_rounds 1 ?_
  rw [rounds_succ]
  go_wp2_with fail
  go_ret
  exact ⟨rfl, (Fr.refl _ w).alloc _⟩

theorem mkNilPeers (w : World) : (Instr.makeSlice 113 (.int .i64 0) (.int .i64 0)).run Tryz.prog w = .ok (.slice (some ⟨w.heap.size, 0, none⟩) 0 0) (w.alloc (.cells #[] (Tryz.prog.elem 113))) := by kernel_rfl
set_option maxRecDepth 100000 in
theorem flatNilPeers (w : World) : Calls Tryz.prog 130 #[.slice none 0 0] w fun e w' => e = .returned (.bool true) ∧ Nw w w' := by
  have hmk := fun w => mkNilPeers w
  go_enter Tryz.func130, Tryz.ntmps130
  go_wp2_with fail
  refine wp_loop_rounds 1 ?_
  rw [rounds_succ]
  go_wp2_with fail
  refine wp_loop_rounds 1 ?_
  rw [rounds_succ]
  go_wp2_with fail
  refine wp_loop_rounds 1 ?_
  rw [rounds_succ]
  go_wp2_with fail
  refine wp_loop_rounds 1 ?_
  rw [rounds_succ]
  go_wp2_with fail
  refine wp_loop_rounds 1 ?_
  rw [rounds_succ]
  go_wp2_with fail
  go_ret
  exact ⟨rfl, (Fr.refl _ w).alloc _⟩

end Go.Proofs.YtippdjaakcgeoaaGreat

namespace Go.Proofs.YtippdjaakcgeoaaGreat
open Go Go.RowKit
set_option linter.unusedVariables false
set_option linter.unusedSimpArgs false
theorem atN_le {α : Type} {ss : List (Ls α)} {n : Nat} (h : ∀ s ∈ ss, s.l.length ≤ n) : ∀ k, k < ss.length → atN ss k ≤ n := fun k hk => by
  simp only [atN, List.getD, List.getElem?_eq_getElem hk, Option.getD_some]
  exact h _ (List.getElem_mem hk)
theorem flatI_held (w : World) (F0 F : Nat → Prop) (B : Option Addr) (c : Nat) (ss : List (Ls Int)) (hs : Sl w F0 B (lvs ss)) (h : Held w F 3 1 intsC ss) (h0 : ∀ b, F0 b → ¬ F b) (hm : ss.length ≤ 1000000000) (hN : ∀ s ∈ ss, s.l.length ≤ 100000000000) (n : Nat) (hn : n = ss.length) :
    Calls Tryz.prog 111 #[.slice B n c] w fun e w' => e = .returned (.bool true) ∧ Fr (InH ss) w w' := by
  subst hn
  refine (flatI_c w F0 B c ss.length (atA ss) (atN ss) (atC ss) _ (by rw [hdrs_of]; exact hs) h.rows h.farC (fun b hb hh => h0 b hb (h.inH (inC_H hh))) hm (atN_le hN)).mono ?_
  rintro e w' ⟨h1, h2⟩
  exact ⟨h1, h2.mono fun b hb => .inl (inC_H hb)⟩
theorem flatB_held (w : World) (F0 F : Nat → Prop) (B : Option Addr) (c : Nat) (ss : List (Ls UInt8)) (hs : Sl w F0 B (lvs ss)) (h : Held w F 5 1 bytesC ss) (h0 : ∀ b, F0 b → ¬ F b) (hm : ss.length ≤ 1000000000) (hN : ∀ s ∈ ss, s.l.length ≤ 100000000000) (n : Nat) (hn : n = ss.length) :
    Calls Tryz.prog 114 #[.slice B n c] w fun e w' => e = .returned (.bool true) ∧ Fr (InH ss) w w' := by
  subst hn
  refine (flatB_c w F0 B c ss.length (atA ss) (atN ss) (atC ss) _ (by rw [hdrs_of]; exact hs) h.rows h.farC (fun b hb hh => h0 b hb (h.inH (inC_H hh))) hm (atN_le hN)).mono ?_
  rintro e w' ⟨h1, h2⟩
  exact ⟨h1, h2.mono fun b hb => .inl (inC_H hb)⟩
theorem flatE_held (w : World) (F0 F : Nat → Prop) (B : Option Addr) (c : Nat) (ss : List (Ls EntM)) (hs : Sl w F0 B (lvs ss)) (h : Held w F 87 7 entsC ss) (h0 : ∀ b, F0 b → ¬ F b) (hm : ss.length ≤ 1000000000) (hN : ∀ s ∈ ss, s.l.length ≤ 100000000000) (n : Nat) (hn : n = ss.length) :
    Calls Tryz.prog 125 #[.slice B n c] w fun e w' => e = .returned (.bool true) ∧ Fr (InH ss) w w' := by
  subst hn
  refine (flatE_c w F0 B c ss.length (atA ss) (atN ss) (atC ss) _ (by rw [hdrs_of]; exact hs) h.rows h.farC (fun b hb hh => h0 b hb (h.inH (inC_H hh))) hm (atN_le hN)).mono ?_
  rintro e w' ⟨h1, h2⟩
  exact ⟨h1, h2.mono fun b hb => .inl (inC_H hb)⟩
theorem flatL_held (w : World) (F0 F : Nat → Prop) (B : Option Addr) (c : Nat) (ss : List (Ls LetM)) (hs : Sl w F0 B (lvs ss)) (h : Held w F 50 20 letsC ss) (h0 : ∀ b, F0 b → ¬ F b) (hm : ss.length ≤ 1000000000) (hN : ∀ s ∈ ss, s.l.length ≤ 100000000000) (n : Nat) (hn : n = ss.length) :
    Calls Tryz.prog 128 #[.slice B n c] w fun e w' => e = .returned (.bool true) ∧ Fr (InH ss) w w' := by
  subst hn
  refine (flatL_c w F0 B c ss.length (atA ss) (atN ss) (atC ss) _ (by rw [hdrs_of]; exact hs) h.rows h.farC (fun b hb hh => h0 b hb (h.inH (inC_H hh))) hm (atN_le hN)).mono ?_
  rintro e w' ⟨h1, h2⟩
  exact ⟨h1, h2.mono fun b hb => .inl (inC_H hb)⟩
set_option maxRecDepth 100000 in
set_option maxHeartbeats 4000000 in
theorem bagApart4 (w0 w : World) (g : Nat) (F : Nat → Prop) (si : List (Ls Int)) (sb : List (Ls UInt8)) (se : List (Ls EntM)) (sl : List (Ls LetM)) (hst : BagSt w0 w g (lvs si) (lvs sb) (lvs se) (lvs sl))
    (hi : Held w0 F 3 1 intsC si) (hb : Held w0 F 5 1 bytesC sb) (he : Held w0 F 87 7 entsC se) (hl : Held w0 F 50 20 letsC sl) (hF : ∀ k, F k → k < w0.heap.size)
    (ni : si.length ≤ 1000000000) (nb : sb.length ≤ 1000000000) (ne : se.length ≤ 1000000000) (nl : sl.length ≤ 1000000000)
    (mi : ∀ s ∈ si, s.l.length ≤ 100000000000) (mb : ∀ s ∈ sb, s.l.length ≤ 100000000000) (me : ∀ s ∈ se, s.l.length ≤ 100000000000) (ml : ∀ s ∈ sl, s.l.length ≤ 100000000000) :
    Calls Tryz.prog 61 #[.pointer (some ⟨g, 0, none⟩)] w fun e w' => e = .returned (.bool true) ∧ Fr F w0 w' := by
  obtain ⟨Bi, ci, Bb, cb, Be, ce, Bl, cl, h⟩ := hst
  have hq := h.nw
  have hbag := h.b
  have hg : ¬ F g := fun hh => by have := hF g hh; have := h.hg; omega
  have Fi : ∀ k, inA Bi k → ¬ F k := fun k hk hh => by have := hF k hh; have := h.ni k hk; omega
  have Fb : ∀ k, inA Bb k → ¬ F k := fun k hk hh => by have := hF k hh; have := h.nb k hk; omega
  have Fe : ∀ k, inA Be k → ¬ F k := fun k hk hh => by have := hF k hh; have := h.ne k hk; omega
  have Fl : ∀ k, inA Bl k → ¬ F k := fun k hk hh => by have := hF k hh; have := h.nl k hk; omega
  have oi := h.oi.sl
  have ob := h.ob.sl
  have oe := h.oe.sl
  have ol := h.ol.sl
  rw [lvs_len, lvs_len, lvs_len, lvs_len] at hbag
  have Hi := Lib.hid (hi.nw hq)
  have Hb := Lib.hid (hb.nw hq)
  have He := Lib.hid (he.nw hq)
  have Hl := Lib.hid (hl.nw hq)
  obtain ⟨nni, hni⟩ : ∃ n, n = si.length := ⟨_, rfl⟩
  obtain ⟨nnb, hnb⟩ : ∃ n, n = sb.length := ⟨_, rfl⟩
  obtain ⟨nne, hne⟩ : ∃ n, n = se.length := ⟨_, rfl⟩
  obtain ⟨nnl, hnl⟩ : ∃ n, n = sl.length := ⟨_, rfl⟩
  rw [← hni, ← hnb, ← hne, ← hnl] at hbag
  have HNI := Lib.hid hni
  have HNB := Lib.hid hnb
  have HNE := Lib.hid hne
  have HNL := Lib.hid hnl
  have MI := Lib.hid mi
  have MB := Lib.hid mb
  have ME := Lib.hid me
  have ML := Lib.hid ml
  have NI := Lib.hid ni
  have NB := Lib.hid nb
  have NE := Lib.hid ne
  have NL := Lib.hid nl
  clear h hi hb he hl hni hnb hne hnl mi mb me ml ni nb ne nl
  unfold bag4 at hbag
  have r0 : Fr F w w := Fr.refl _ _
  have c0 := hbag.cell 0
  simp at c0
  go_enter Tryz.func61, Tryz.ntmps61
  go_wp2_with fail
  refine (flatNilLimbs _).mono ?_
  rintro e w1 ⟨rfl, q1⟩
  have r1 := r0.tr (Nw.on q1)
  have Hi := Lib.hid (Hi.out.nw q1)
  have Hb := Lib.hid (Hb.out.nw q1)
  have He := Lib.hid (He.out.nw q1)
  have Hl := Lib.hid (Hl.out.nw q1)
  have b1 := hbag.fr r1 hg
  clear c0
  have c1 := b1.cell 1
  simp at c1
  clear b1
  go_wp2_with fail
  refine (flatNilWords _).mono ?_
  rintro e w2 ⟨rfl, q2⟩
  have r2 := r1.tr (Nw.on q2)
  have Hi := Lib.hid (Hi.out.nw q2)
  have Hb := Lib.hid (Hb.out.nw q2)
  have He := Lib.hid (He.out.nw q2)
  have Hl := Lib.hid (Hl.out.nw q2)
  have b2 := hbag.fr r2 hg
  clear c1
  have c2 := b2.cell 2
  simp at c2
  clear b2
  go_wp2_with fail
  refine (flatI_held _ (inA Bi) F Bi ci si (oi.fr r2 Fi) Hi.out Fi NI.out MI.out _ HNI.out).mono ?_
  rintro e w3 ⟨rfl, f3⟩
  have f3f : Fr F w2 w3 := f3.mono fun b hb => .inl (Hi.out.inH hb)
  have Hb := Lib.hid (Hb.out.frH f3 (fun b h1 h2 => Hi.out.off Hb.out (by decide) b h1 h2))
  have He := Lib.hid (He.out.frH f3 (fun b h1 h2 => Hi.out.off He.out (by decide) b h1 h2))
  have Hl := Lib.hid (Hl.out.frH f3 (fun b h1 h2 => Hi.out.off Hl.out (by decide) b h1 h2))
  have r3 := r2.tr f3f
  have b3 := hbag.fr r3 hg
  clear c2
  have c3 := b3.cell 3
  simp at c3
  clear b3
  go_wp2_with fail
  refine (flatNilLongs _).mono ?_
  rintro e w4 ⟨rfl, q4⟩
  have r4 := r3.tr (Nw.on q4)
  have Hb := Lib.hid (Hb.out.nw q4)
  have He := Lib.hid (He.out.nw q4)
  have Hl := Lib.hid (Hl.out.nw q4)
  have b4 := hbag.fr r4 hg
  clear c3
  have c4 := b4.cell 4
  simp at c4
  clear b4
  go_wp2_with fail
  refine (flatNilTexts _).mono ?_
  rintro e w5 ⟨rfl, q5⟩
  have r5 := r4.tr (Nw.on q5)
  have Hb := Lib.hid (Hb.out.nw q5)
  have He := Lib.hid (He.out.nw q5)
  have Hl := Lib.hid (Hl.out.nw q5)
  have b5 := hbag.fr r5 hg
  clear c4
  have c5 := b5.cell 5
  simp at c5
  clear b5
  go_wp2_with fail
  refine (flatB_held _ (inA Bb) F Bb cb sb (ob.fr r5 Fb) Hb.out Fb NB.out MB.out _ HNB.out).mono ?_
  rintro e w6 ⟨rfl, f6⟩
  have f6f : Fr F w5 w6 := f6.mono fun b hb => .inl (Hb.out.inH hb)
  have He := Lib.hid (He.out.frH f6 (fun b h1 h2 => Hb.out.off He.out (by decide) b h1 h2))
  have Hl := Lib.hid (Hl.out.frH f6 (fun b h1 h2 => Hb.out.off Hl.out (by decide) b h1 h2))
  have r6 := r5.tr f6f
  have b6 := hbag.fr r6 hg
  clear c5
  have c6 := b6.cell 6
  simp at c6
  clear b6
  go_wp2_with fail
  refine (flatNilTruths _).mono ?_
  rintro e w7 ⟨rfl, q7⟩
  have r7 := r6.tr (Nw.on q7)
  have He := Lib.hid (He.out.nw q7)
  have Hl := Lib.hid (Hl.out.nw q7)
  have b7 := hbag.fr r7 hg
  clear c6
  have c7 := b7.cell 7
  simp at c7
  clear b7
  go_wp2_with fail
  refine (flatNilSpans _).mono ?_
  rintro e w8 ⟨rfl, q8⟩
  have r8 := r7.tr (Nw.on q8)
  have He := Lib.hid (He.out.nw q8)
  have Hl := Lib.hid (Hl.out.nw q8)
  have b8 := hbag.fr r8 hg
  clear c7
  have c8 := b8.cell 8
  simp at c8
  clear b8
  go_wp2_with fail
  refine (flatNilShareRows _).mono ?_
  rintro e w9 ⟨rfl, q9⟩
  have r9 := r8.tr (Nw.on q9)
  have He := Lib.hid (He.out.nw q9)
  have Hl := Lib.hid (Hl.out.nw q9)
  have b9 := hbag.fr r9 hg
  clear c8
  have c9 := b9.cell 9
  simp at c9
  clear b9
  go_wp2_with fail
  refine (flatNilSharesRows _).mono ?_
  rintro e w10 ⟨rfl, q10⟩
  have r10 := r9.tr (Nw.on q10)
  have He := Lib.hid (He.out.nw q10)
  have Hl := Lib.hid (Hl.out.nw q10)
  have b10 := hbag.fr r10 hg
  clear c9
  have c10 := b10.cell 10
  simp at c10
  clear b10
  go_wp2_with fail
  refine (flatNilNames _).mono ?_
  rintro e w11 ⟨rfl, q11⟩
  have r11 := r10.tr (Nw.on q11)
  have He := Lib.hid (He.out.nw q11)
  have Hl := Lib.hid (Hl.out.nw q11)
  have b11 := hbag.fr r11 hg
  clear c10
  have c11 := b11.cell 11
  simp at c11
  clear b11
  go_wp2_with fail
  refine (flatNilActs _).mono ?_
  rintro e w12 ⟨rfl, q12⟩
  have r12 := r11.tr (Nw.on q12)
  have He := Lib.hid (He.out.nw q12)
  have Hl := Lib.hid (Hl.out.nw q12)
  have b12 := hbag.fr r12 hg
  clear c11
  have c12 := b12.cell 12
  simp at c12
  clear b12
  go_wp2_with fail
  refine (flatNilReads _).mono ?_
  rintro e w13 ⟨rfl, q13⟩
  have r13 := r12.tr (Nw.on q13)
  have He := Lib.hid (He.out.nw q13)
  have Hl := Lib.hid (Hl.out.nw q13)
  have b13 := hbag.fr r13 hg
  clear c12
  have c13 := b13.cell 13
  simp at c13
  clear b13
  go_wp2_with fail
  refine (flatNilLines _).mono ?_
  rintro e w14 ⟨rfl, q14⟩
  have r14 := r13.tr (Nw.on q14)
  have He := Lib.hid (He.out.nw q14)
  have Hl := Lib.hid (Hl.out.nw q14)
  have b14 := hbag.fr r14 hg
  clear c13
  have c14 := b14.cell 14
  simp at c14
  clear b14
  go_wp2_with fail
  refine (flatNilHolds _).mono ?_
  rintro e w15 ⟨rfl, q15⟩
  have r15 := r14.tr (Nw.on q15)
  have He := Lib.hid (He.out.nw q15)
  have Hl := Lib.hid (Hl.out.nw q15)
  have b15 := hbag.fr r15 hg
  clear c14
  have c15 := b15.cell 15
  simp at c15
  clear b15
  go_wp2_with fail
  refine (flatNilConfigs _).mono ?_
  rintro e w16 ⟨rfl, q16⟩
  have r16 := r15.tr (Nw.on q16)
  have He := Lib.hid (He.out.nw q16)
  have Hl := Lib.hid (Hl.out.nw q16)
  have b16 := hbag.fr r16 hg
  clear c15
  have c16 := b16.cell 16
  simp at c16
  clear b16
  go_wp2_with fail
  refine (flatE_held _ (inA Be) F Be ce se (oe.fr r16 Fe) He.out Fe NE.out ME.out _ HNE.out).mono ?_
  rintro e w17 ⟨rfl, f17⟩
  have f17f : Fr F w16 w17 := f17.mono fun b hb => .inl (He.out.inH hb)
  have Hl := Lib.hid (Hl.out.frH f17 (fun b h1 h2 => He.out.off Hl.out (by decide) b h1 h2))
  have r17 := r16.tr f17f
  have b17 := hbag.fr r17 hg
  clear c16
  have c17 := b17.cell 17
  simp at c17
  clear b17
  go_wp2_with fail
  refine (flatNilBases _).mono ?_
  rintro e w18 ⟨rfl, q18⟩
  have r18 := r17.tr (Nw.on q18)
  have Hl := Lib.hid (Hl.out.nw q18)
  have b18 := hbag.fr r18 hg
  clear c17
  have c18 := b18.cell 18
  simp at c18
  clear b18
  go_wp2_with fail
  refine (flatNilImages _).mono ?_
  rintro e w19 ⟨rfl, q19⟩
  have r19 := r18.tr (Nw.on q19)
  have Hl := Lib.hid (Hl.out.nw q19)
  have b19 := hbag.fr r19 hg
  clear c18
  have c19 := b19.cell 19
  simp at c19
  clear b19
  go_wp2_with fail
  refine (flatL_held _ (inA Bl) F Bl cl sl (ol.fr r19 Fl) Hl.out Fl NL.out ML.out _ HNL.out).mono ?_
  rintro e w20 ⟨rfl, f20⟩
  have f20f : Fr F w19 w20 := f20.mono fun b hb => .inl (Hl.out.inH hb)
  have r20 := r19.tr f20f
  have b20 := hbag.fr r20 hg
  clear c19
  have c20 := b20.cell 20
  simp at c20
  clear b20
  go_wp2_with fail
  refine (flatNilStretches _).mono ?_
  rintro e w21 ⟨rfl, q21⟩
  have r21 := r20.tr (Nw.on q21)
  have b21 := hbag.fr r21 hg
  clear c20
  have c21 := b21.cell 21
  simp at c21
  clear b21
  go_wp2_with fail
  refine (flatNilPeers _).mono ?_
  rintro e w22 ⟨rfl, q22⟩
  have r22 := r21.tr (Nw.on q22)
  clear c21
  go_wp2_with fail
  go_ret
  exact ⟨rfl, (Nw.on hq).tr r22⟩
end Go.Proofs.YtippdjaakcgeoaaGreat
