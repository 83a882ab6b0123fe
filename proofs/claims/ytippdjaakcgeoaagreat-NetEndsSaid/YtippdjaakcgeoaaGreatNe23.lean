/- Lemmas of the walks: FtB, FtE. (Laid together by shake.py.) -/
import Derived.Test.YtippdjaakcgeoaaGreatNe21
set_option linter.unusedVariables false
set_option linter.unusedSimpArgs false
namespace Go.Proofs.YtippdjaakcgeoaaGreat
open Go Go.RowKit
set_option linter.unusedVariables false
set_option linter.unusedSimpArgs false
theorem markB_any (w : World) (k i : Nat) (hk : k ≤ 1000000000000) (hi : i ≤ 100000000000000) :
    Calls Tryz.prog 93 #[.int .i64 (k : Int), .int .i64 (i : Int)] w fun e w' => e = .returned (B8 (mkB k i)) ∧ w = w' := by
  have h := markByte_any w (k : Int) (i : Int) (by omega) (by omega) (by omega) (by omega)
  rwa [Int.toNat_natCast, Int.toNat_natCast] at h
def mkBL (k i : Nat) : List Value := [B8 (mkB k i)]
theorem mkBL_len (k i : Nat) : (mkBL k i).length = 1 := rfl
theorem info_eB : (Tryz.prog.info? 5).map (fun i => (i.zero, i.size, i.bytes)) = some (some (.int .u8 0), 1, 1) := by kernel_rfl
set_option maxRecDepth 100000 in
set_option maxHeartbeats 8000000 in
theorem flatB_c (w : World) (F0 : Nat → Prop) (B : Option Addr) (c : Nat) (m : Nat) (A : Nat → Option Addr) (N cp : Nat → Nat) (f : Nat → List Value) (hs : Sl w F0 B (hdrs m A N cp)) (hr : RowsC w 5 1 m A N cp f) (hfar : FarC m A cp) (h0 : ∀ b, F0 b → ¬ InC m A cp b)
    (hm : m ≤ 1000000000) (hN : ∀ k, k < m → N k ≤ 100000000000) :
    Calls Tryz.prog 114 #[.slice B m c] w fun e w' => e = .returned (.bool true) ∧ Fr (InC m A cp) w w' := by
  have hmkl := mkBL_len
  go_enter Tryz.func114, Tryz.ntmps114
  go_wp2_with fail
  go_loopw [3] (fun i wr => Fl1o mkBL 5 1 w m A N cp i wr) (fun i _ => m - (intOf i).toNat)
  case atStart => exact ⟨0, Nat.zero_le _, rfl, f, hr, fun _ h => by omega, Fr.refl _ _⟩
  case round =>
    obtain ⟨k, hk, rfl, f1, hr1, hb1, hf1⟩ := hrel
    have HB1 := Lib.hid hb1
    clear hb1
    by_cases hlt : k < m
    · obtain ⟨b, o, rfl, hF, hc⟩ := (hs.fr hf1 h0).hdr hlt
      have hNk := hN k hlt
      go_wp2_with fail
      go_loopw [4] (fun i wx => Fl1i mkBL 5 1 w m A N cp k i wx) (fun i _ => N k - (intOf i).toNat)
      case atStart => exact ⟨0, f1, Nat.zero_le _, rfl, hr1, HB1.out, (by simp [mksL]), hf1⟩
      case round =>
        obtain ⟨j, f2, hj, rfl, hr2, hb2, ht2, hf2⟩ := hrel
        have HB2 := Lib.hid hb2
        have HT2 := Lib.hid ht2
        clear hb2 ht2 hc
        obtain ⟨b', o', hB, hF', hc⟩ := (hs.fr hf2 h0).hdr hlt
        injection hB with hB
        injection hB with hB1' hB2' _
        subst hB1' hB2'
        by_cases hltj : j < N k
        · have ho := hr2 k hlt
          obtain ⟨g, hA, hho, o1⟩ := ho.at_ (by have := ho.cap_le.1; omega)
          have hcu5 : ∀ w', Nw wr w' → (∃ u, w'.cell? ⟨g, j, none⟩ = some u) ∧ w'.frozen? ⟨g, j, none⟩ = false := fun w' q => ⟨(o1.fr q (fun _ _ h => h)).cellEx (by omega), (o1.fr q (fun _ _ h => h)).frozenAt j⟩
          have hmk : ∀ n : Later wr, _ := fun n => markB_any n.at_ k j (by omega) (by omega)
          have hnx : ∀ w1, Nw wr w1 → ∀ w', w' = w1.setCell ⟨g, j, none⟩ (B8 (mkB k j)) → Fl1i mkBL 5 1 w m A N cp k (.int .i64 ((j : Int) + 1)) w' := fun w1 q w' h => Fl1i.next hmkl hfar hlt hltj (hr2.nw q) HB2.out HT2.out (hf2.tr (Nw.on q)) hA (by rw [h, Nat.mul_one]; rfl)
          obtain ⟨x, hxx⟩ : ∃ x, mkB k j = x := ⟨_, rfl⟩
          rw [hxx] at hmk hnx
          have HCU := Lib.hid hcu5
          have HMK := Lib.hid hmk
          have HNX := Lib.hid hnx
          clear hcu5 hmk hnx o1 ho hxx
          rw [hA] at hc
          have hi0 : (j : Int) < (N k : Int) := by omega
          have hi1 : decide ((j : Int) < (N k : Int)) = true := decide_eq_true hi0
          have hi2 : decide (j < N k) = true := decide_eq_true hltj
          have d1 := fun (n : Later wr) => n.cell hc
          go_wp2_with fail
          refine wp_region_later_tail 9 (by kernel_rfl) (by kernel_rfl) ?_
          simp only [List.take_succ_cons, List.take_zero, List.drop_succ_cons, List.drop_zero]
          repeat (go_big_quiet_step ((go_at_call 93; exact Later.same (HMK.out _))))
          refine wpQuiet_nil ?_
          intro w5 q5
          obtain ⟨⟨u, hcu⟩, hfz⟩ := HCU.out w5 q5
          go_wp2_with fail
          refine ⟨HNX.out w5 q5 _ rfl, ?_⟩
          simp [intOf]
          omega
        · have hfk : f2 k = mksL mkBL k (N k) := by
            have h1 := HT2.out
            have h2 := (hr2 k hlt).len
            rwa [List.take_of_length_le (by rw [h2]; exact Nat.mul_le_mul_right _ (by omega)), show j = N k by omega] at h1
          have HFK := Lib.hid hfk
          clear hfk
          obtain rfl : j = N k := by omega
          go_wp2_with fail
          go_roundw
          case rel =>
            refine ⟨k + 1, by omega, by go_num, f2, hr2, fun i hi => ?_, hf2⟩
            by_cases e : i = k
            · subst e; exact HFK.out
            · exact HB2.out i (by omega)
          case measure => simp [intOf]; omega
    · obtain rfl : m = k := by omega
      have hr2 : RowsC wr 5 1 m A N cp (fun j => mksL mkBL j (N j)) := hr1.congr HB1.out
      have hsz1 := hf1.size
      clear hr1 HB1
      go_wp2_with (at_make; refine wl_make rfl _ _ _ rfl 24 (.slice none 0 0) Tryz.underlying76 info_hb rfl .i64 .i64 _ _ m rfl rfl rfl rfl (by omega) (by unfold maxLen; omega) ?_; intro w2 ho2 q2)
      have hf2 := hf1.tr (Nw.on q2)
      have hr3 := hr2.nw q2
      have hApG : FlG mkBL 5 48 1 w m A N cp wr.heap.size (conA mkBL N) 0 w2 := ⟨_, fun _ => none, fun _ => 0, ho2, fun _ h => by omega, fun _ h => by omega, fun _ h => by omega, hr3, hf2⟩
      obtain ⟨gg, hgg⟩ : ∃ gg, wr.heap.size = gg := ⟨_, rfl⟩
      rw [hgg] at hApG hsz1 ⊢
      clear hgg hr2 hf2 hr3 ho2 q2 hf1
      go_loopw [6] (fun i wx => FlGo mkBL 5 48 1 w m A N cp gg (conA mkBL N) i wx) (fun i _ => m - (intOf i).toNat)
      case atStart => exact ⟨0, Nat.zero_le _, rfl, hApG⟩
      case round =>
        clear hApG
        obtain ⟨k, hk, rfl, hG⟩ := hrel
        obtain ⟨wo, rfl⟩ : ∃ wo : World, wo = wr := ⟨_, rfl⟩
        have hrow := hG.rows
        have hfo := hG.fr
        by_cases hlt : k < m
        · obtain ⟨b, o, rfl, hF, hc⟩ := (hs.fr hfo h0).hdr hlt
          have hNk := hN k hlt
          have hAk : ∀ b, inA (hom (A k) (cp k)) b → b < wo.heap.size := fun b hb => (hrow k hlt).lt b hb
          have hFk : ¬ inA (hom (A k) (cp k)) b := fun h => h0 b hF ⟨k, hlt, h⟩
          have hbl := World.block_lt_of_cell? _ _ hc
          go_wp2_with fail
          go_loopw [7, 8] (fun v i wx => FlXi mkBL 5 1 A N cp k wo v i wx) (fun _ i _ => 64 - (intOf i).toNat)
          case atStart => exact ⟨0, A k, cp k, by omega, rfl, rfl, Fr.refl _ _, by simpa using hrow k hlt, .inl ⟨rfl, rfl⟩, hrow k hlt⟩
          case round =>
            obtain ⟨j, X, c', hj, rfl, rfl, hX⟩ := hrel
            have hcx := (hX.1.cell (p := ⟨b, o + k, none⟩) hbl hFk).trans hc
            by_cases hltj : j < 64
            · have hmk := fun w => markB_any w k (N k + j) (by omega) (by omega)
              have hju : (((N k + j : Nat)) : Int) = (N k : Int) + (j : Int) := by omega
              rw [hju] at hmk
              have hnx := fun (w1 w' : World) (A' : Option Addr) (cap' : Nat) (q1 : Nw wr w1) (h : AppC w1 5 1 X (N k + j) c' 1 (mksL mkBL k (N k + j)) ([B8 (mkB k (N k + j))]) A' cap' w') =>
                FlX.next hX q1 (by omega) (mksL_len hmkl _ _) (by omega) (mksL_take hmkl _ _ _ (by omega)) hAk h
              have hnx2 : ∀ (w1 w' : World) (A' : Option Addr) (cap' : Nat), Nw wr w1 → AppC w1 5 1 X (N k + j) c' 1 (mksL mkBL k (N k + j)) ([B8 (mkB k (N k + j))]) A' cap' w' → FlXi mkBL 5 1 A N cp k wo (.slice A' (N k + j + 1) cap') (.int .i64 ((j : Int) + 1)) w' := fun w1 w' A' cap' q1 h =>
                ⟨j + 1, A', cap', by omega, by go_num, rfl, by have := hnx w1 w' A' cap' q1 h; have e : mksL mkBL k (N k + (j + 1)) = mksL mkBL k (N k + j) ++ [B8 (mkB k (N k + j))] := mksL_succ _ _ _; rw [e]; exact this⟩
              have hXo := hX.2.1
              have hcm : ∀ u ∈ [B8 (mkB k (N k + j))], u.oneCell' = true := by intro u hu; rw [List.mem_singleton.1 hu]; rfl
              have hcs : (mksL mkBL k (N k + j)).length = (N k + j) * 1 := mksL_len hmkl _ _
              generalize mksL mkBL k (N k + j) = con at hnx2 hXo hcs
              obtain ⟨x, hxx⟩ : ∃ x, mkB k (N k + j) = x := ⟨_, rfl⟩
              rw [hxx] at hmk hnx2 hcm
              have hlen : [B8 (x)].length = 1 * 1 := rfl
              have HMK := Lib.hid hmk
              have HNX := Lib.hid hnx2
              have HCS := Lib.hid hcs
              have HX := Lib.hid hX
              clear hmk hnx hnx2 hju hc hcs hX hxx
              go_wp2_with fail
              refine (HMK.out _).mono ?_
              rintro e w3 ⟨rfl, rfl⟩
              have q3 : Nw wr wr := Fr.refl (fun _ => False) _
              have sln := sl_new wr 5 [B8 (x)] _ rfl
              have qa : Nw wr (wr.alloc (.cells #[B8 (x)] 5)) := (Fr.refl (fun _ => False) _).alloc _
              have hoa := hXo.nw qa
              obtain ⟨V2, hV2⟩ : ∃ V, V = wr.alloc (.cells #[B8 (x)] 5) := ⟨_, rfl⟩
              rw [← hV2] at sln qa hoa
              have HV2 := Lib.hid hV2
              clear hV2
              go_wp2_with (at_builtin; rw [← HV2.out]; refine wl_appendC rfl _ _ _ rfl 1 (.int .u8 0) Tryz.underlying48 info_eB rfl (by decide) rfl hoa rfl sln hlen hcm (by omega) (by unfold maxLen; omega) (by omega) ?_; intro A' cap' w4 hap)
              go_roundw
              case rel => exact HNX.out _ _ _ _ (q3.tr qa) hap
              case measure => simp [intOf]; omega
            · obtain rfl : j = 64 := by omega
              obtain ⟨cells, hgo⟩ := hG.own
              have hng : ¬ inA (hom (A k) (cp k)) gg := fun h => by
                obtain ⟨cur0, hbg, _⟩ := hgo.blk
                exact (hrow k hlt).offB hbg (by decide) h
              have hgo2 := hgo.fr hX.1 (fun j hj h => by rw [(inA_some _ _).1 hj] at h; exact hng h)
              obtain ⟨u, hcu⟩ : ∃ u, wr.cell? ⟨gg, k, none⟩ = some u := hgo2.cellEx (by omega)
              have hfz := hgo2.frozenAt k
              have hnx := fun (w' : World) (h : w' = _) => FlG.next (w' := w') (EE := 48) (by decide) (by omega) hG hsz1 hr hfar hlt hX h
              have HNX := Lib.hid hnx
              have hi0 : (k : Int) < (m : Int) := by omega
              have HX := Lib.hid hX
              have HGG := Lib.hid hG
              clear hnx hgo hgo2 hc hcx hX hG
              go_wp2_with fail
              go_roundw
              case rel => exact ⟨k + 1, by omega, by go_num, HNX.out _ rfl⟩
              case measure => simp [intOf]; omega
        · obtain rfl : m = k := by omega
          go_wp2_with fail
          go_loopw [9] (fun i wx => KnownNw wo m i wx) (fun i _ => m - (intOf i).toNat)
          case atStart => exact ⟨0, Nat.zero_le _, rfl, Fr.refl _ _⟩
          case round =>
            obtain ⟨k, hk, rfl, hq⟩ := hrel
            obtain ⟨wp, rfl⟩ : ∃ wp : World, wp = wr := ⟨_, rfl⟩
            by_cases hlt : k < m
            · obtain ⟨X, c', hgc, hgx⟩ := hG.cells hlt
              have hNk := hN k hlt
              have hgc2 := (hq.cell (p := ⟨gg, k, none⟩) (World.block_lt_of_cell? _ _ hgc) (fun h => h)).trans hgc
              have HGX := Lib.hid hgx
              clear hgc hgx
              have hi0 : (k : Int) < (m : Int) := by omega
              go_wp2_with fail
              go_loopw [10] (fun i wx => KnownNw wp (N k + 64) i wx) (fun i _ => N k + 64 - (intOf i).toNat)
              case atStart => exact ⟨0, Nat.zero_le _, rfl, Fr.refl _ _⟩
              case round =>
                obtain ⟨j, hj, rfl, hq2⟩ := hrel
                have hgc3 := (hq2.cell (p := ⟨gg, k, none⟩) (World.block_lt_of_cell? _ _ hgc2) (fun h => h)).trans hgc2
                by_cases hltj : j < N k + 64
                · obtain ⟨g, rfl, hcx⟩ := grown_cells (z := 1) (l := mkBL k j) rfl (by omega) HGX.out (conA_at hmkl N k j hltj)
                  have hcx2 := cells_nw hcx (hq.tr hq2)
                  obtain ⟨b, o, rfl, hF, hc⟩ := ((hs.fr hfo h0).fr (hq.tr hq2) (fun _ _ h => h)).hdr hlt
                  have hmk : ∀ n : Later wr, _ := fun n => markB_any n.at_ k j (by omega) (by omega)
                  have hlk := fun (h : j < N k) => (hrow.nw (hq.tr hq2)).cell hmkl hlt h
                  have hMK : mkBL k j = [B8 (mkB k j)] := rfl
                  rw [hMK] at hcx2 hlk
                  obtain ⟨x, hxx⟩ : ∃ x, mkB k j = x := ⟨_, rfl⟩
                  rw [hxx] at hmk hcx2 hlk
                  have HMK := Lib.hid hmk
                  have HLK := Lib.hid hlk
                  have d2 := fun (n : Later wr) => n.cell (show wr.cell? ⟨g, j, none⟩ = some (B8 (x)) by have h := hcx2 0 _ rfl; rwa [Nat.mul_one] at h)
                  clear hmk hcx hcx2 hlk hMK hxx
                  have hi1 : (j : Int) < (N k : Int) + 64 := by omega
                  have hi4 : decide ((j : Int) < (N k : Int) + 64) = true := decide_eq_true hi1
                  have hi5 : decide (j < N k + 64) = true := decide_eq_true hltj
                  have d1 := fun (n : Later wr) => n.cell hgc3
                  have d3 := fun (n : Later wr) => n.cell hc
                  by_cases hjk : j < N k
                  · obtain ⟨g2, hA2, hcl⟩ := HLK.out hjk
                    rw [hA2] at d3
                    have d4 := fun (n : Later wr) => n.cell (show wr.cell? ⟨g2, j, none⟩ = some (B8 (x)) by have h := hcl 0 _ rfl; rwa [Nat.mul_one] at h)
                    have hi2 : (j : Int) < (N k : Int) := by omega
                    have hi6 : decide ((j : Int) < (N k : Int)) = true := decide_eq_true hi2
                    have hi7 : decide (j < N k) = true := decide_eq_true hjk
                    clear hcl hc HLK
                    go_wp2_with fail
                    refine wp_region_later (by kernel_rfl) (by kernel_rfl) ?_
                    repeat (go_big_quiet_step ((go_at_call 93; exact Later.same (HMK.out _))))
                    refine wpQuiet_later fun w5 q5 => ?_
                    clear d1 d2 d3
                    go_wp2_with fail
                    go_roundw
                    case rel => exact ⟨j + 1, by omega, by go_num, hq2.tr q5⟩
                    case measure => simp [intOf]; omega
                  · have hi2 : decide ((j : Int) < (N k : Int)) = false := decide_eq_false (by omega)
                    have hi3 : decide (j < N k) = false := decide_eq_false (by omega)
                    clear hc HLK
                    go_wp2_with fail
                    refine wp_region_later (by kernel_rfl) (by kernel_rfl) ?_
                    repeat (go_big_quiet_step ((go_at_call 93; exact Later.same (HMK.out _))))
                    refine wpQuiet_later fun w5 q5 => ?_
                    clear d1 d2 d3
                    go_wp2_with fail
                    go_roundw
                    case rel => exact ⟨j + 1, by omega, by go_num, hq2.tr q5⟩
                    case measure => simp [intOf]; omega
                · obtain rfl : j = N k + 64 := by omega
                  go_wp2_with fail
                  go_roundw
                  case rel => exact ⟨k + 1, by omega, by go_num, hq.tr hq2⟩
                  case measure => simp [intOf]; omega
            · obtain rfl : m = k := by omega
              obtain ⟨cells, hgo⟩ := hG.own
              have hgo2 := hgo.fr hq (fun _ _ h => h)
              have hrow2 := hrow.nw hq
              have hfo2 := hfo.tr (Nw.on hq)
              have hA2 : FlG mkBL 5 48 1 w m A N cp gg (conB mkBL m N) 0 wp := ⟨cells, fun _ => none, fun _ => 0, hgo2, fun _ h => by omega, fun _ h => by omega, fun _ h => by omega, hrow2, hfo2⟩
              clear hG hrow hfo hgo hgo2 hrow2 hfo2 hq
              go_wp2_with fail
              go_loopw [11] (fun i wx => FlGo mkBL 5 48 1 w m A N cp gg (conB mkBL m N) i wx) (fun i _ => m - (intOf i).toNat)
              case atStart => exact ⟨0, Nat.zero_le _, rfl, hA2⟩
              case round =>
                clear hA2
                obtain ⟨k, hk, rfl, hG⟩ := hrel
                obtain ⟨wo, rfl⟩ : ∃ wo : World, wo = wr := ⟨_, rfl⟩
                have hrow := hG.rows
                have hfo := hG.fr
                by_cases hlt : k < m
                · obtain ⟨b, o, rfl, hF, hc⟩ := (hs.fr hfo h0).hdr hlt
                  have hNk := hN k hlt
                  have hAk : ∀ b, inA (hom (A k) (cp k)) b → b < wo.heap.size := fun b hb => (hrow k hlt).lt b hb
                  have hbl := World.block_lt_of_cell? _ _ hc
                  go_wp2_with (at_make; refine wl_makeZ rfl _ _ _ rfl 1 (.int .u8 0) Tryz.underlying48 info_eB .i64 .i64 _ _ 64 rfl rfl rfl rfl (by omega) (by unfold maxLen; omega) ?_; intro wy csy hoy qy)
                  obtain ⟨gm, hgm⟩ : ∃ gm, wo.heap.size = gm := ⟨_, rfl⟩
                  have hgm2 : wo.heap.size ≤ gm := Nat.le_of_eq hgm
                  rw [hgm] at hoy ⊢
                  clear hgm
                  have HOY := Lib.hid hoy
                  clear hoy
                  go_wp2_with fail
                  go_loopw [13] (fun i wx => ManyL mkBL 5 1 (k + m) gm wy i wx) (fun i _ => 64 - (intOf i).toNat)
                  case atStart => exact ⟨0, csy, by omega, rfl, HOY.out, (by simp [mksL]), Fr.refl _ _⟩
                  case round =>
                    obtain ⟨j, cs, hj, rfl, hom_, ht, hfm⟩ := hrel
                    have HT := Lib.hid ht
                    clear ht HOY
                    have hcl : cs.length = 64 * 1 := hom_.1
                    have HCL := Lib.hid hcl
                    clear hcl
                    by_cases hltj : j < 64
                    · have hmk := fun w => markB_any w (k + m) j (by omega) (by omega)
                      have hju : ((k + m : Nat) : Int) = (k : Int) + (m : Int) := by omega
                      rw [hju] at hmk
                      have hnx : ∀ w', w' = wr.setCell ⟨gm, j, none⟩ (B8 (mkB (k + m) j)) → ManyL mkBL 5 1 (k + m) gm wy (.int .i64 ((j : Int) + 1)) w' := fun w' h => ManyL.next (w' := w') hmkl hom_ HT.out hfm hltj (by rw [h, Nat.mul_one]; rfl)
                      obtain ⟨x, hxx⟩ : ∃ x, mkB (k + m) j = x := ⟨_, rfl⟩
                      rw [hxx] at hmk hnx
                      have HMK := Lib.hid hmk
                      have HNX := Lib.hid hnx
                      obtain ⟨u, hcu⟩ : ∃ u, wr.cell? ⟨gm, j, none⟩ = some u := hom_.cellEx (by omega)
                      have hfz := hom_.frozenAt j
                      clear hmk hnx hju hxx
                      have hi0 : (j : Int) < 64 := by omega
                      have hi1 : decide ((j : Int) < 64) = true := decide_eq_true hi0
                      have hi2 : decide (j < 64) = true := decide_eq_true hltj
                      go_wp2_with (go_at_call 93; refine (HMK.out _).mono ?_; rintro e w3 ⟨rfl, rfl⟩)
                      refine ⟨HNX.out _ rfl, ?_⟩
                      simp [intOf]
                      omega
                    · obtain rfl : j = 64 := by omega
                      have hcs : cs = mksL mkBL (k + m) 64 := by
                        have := HT.out
                        rwa [List.take_of_length_le (by rw [HCL.out]; omega)] at this
                      subst hcs
                      clear HT HCL
                      have hx0 : FlX mkBL 5 1 A N cp k wo (mksL mkBL k (N k)) (A k) (N k) (cp k) wr := by
                        have hf9 : Fr (inA (hom (A k) (cp k))) wo wr := (Nw.on qy).trans hfm (fun j hj => .inr (by rw [hj]; exact hgm2))
                        have ho9 := ((hrow k hlt).fr qy (fun _ _ h => h)).fr hfm (fun j hj e => by have := hAk j hj; omega)
                        exact ⟨hf9, ho9, .inl ⟨rfl, rfl⟩, ho9⟩
                      have hFk : ¬ inA (hom (A k) (cp k)) b := fun h => h0 b hF ⟨k, hlt, h⟩
                      have hcx := (hx0.1.cell (p := ⟨b, o + k, none⟩) hbl hFk).trans hc
                      have hnx := fun (w' : World) (A' : Option Addr) (cap' : Nat) (h : AppC wr 5 1 (A k) (N k) (cp k) 64 (mksL mkBL k (N k)) (mksL mkBL (k + m) 64) A' cap' w') =>
                        FlX.next hx0 (Fr.refl _ _) (by omega) (mksL_len hmkl _ _) (Nat.le_refl _) (mksL_take hmkl _ _ _ (Nat.le_refl _)) hAk h
                      have hXo := hx0.2.1
                      have hml : (mksL mkBL (k + m) 64).length = 64 * 1 := mksL_len hmkl _ _
                      have hcm : ∀ u ∈ mksL mkBL (k + m) 64, u.oneCell' = true := by
                        intro u hu
                        obtain ⟨l, hl, hu⟩ := List.mem_flatten.1 hu
                        obtain ⟨i, _, rfl⟩ := List.mem_map.1 hl
                        rw [List.mem_singleton.1 hu]; rfl
                      have HCM := Lib.hid hcm
                      have HML := Lib.hid hml
                      clear hml hc hcm
                      obtain ⟨cells2, hgo⟩ := hG.own
                      have hng : ∀ j, inA (some ⟨gg, 0, none⟩) j → ¬ inA (hom (A k) (cp k)) j := fun j hj h => by
                        rw [(inA_some _ _).1 hj] at h
                        obtain ⟨cur0, hbg, _⟩ := hgo.blk
                        exact (hrow k hlt).offB hbg (by decide) h
                      have hfin : ∀ (A' : Option Addr) (cap' : Nat) (w4 : World), AppC wr 5 1 (A k) (N k) (cp k) 64 (mksL mkBL k (N k)) (mksL mkBL (k + m) 64) A' cap' w4 →
                          (∃ u, w4.cell? ⟨gg, k, none⟩ = some u) ∧ w4.frozen? ⟨gg, k, none⟩ = false ∧ FlGo mkBL 5 48 1 w m A N cp gg (conB mkBL m N) (.int .i64 ((k : Int) + 1)) (w4.setCell ⟨gg, k, none⟩ (.slice A' (N k + 64) cap')) := fun A' cap' w4 hap => by
                        have hx4 := hnx w4 A' cap' hap
                        have hgo4 := hgo.fr hx4.1 hng
                        exact ⟨hgo4.cellEx (by omega), hgo4.frozenAt k, k + 1, by omega, by go_num, FlG.next (EE := 48) (by decide) (by omega) hG hsz1 hr hfar hlt hx4 rfl⟩
                      have HFIN := Lib.hid hfin
                      have hsl := hom_.sl
                      have HG2 := Lib.hid hG
                      have HR2 := Lib.hid hr
                      have HX0 := Lib.hid hx0
                      obtain ⟨con, hcon⟩ : ∃ con, mksL mkBL k (N k) = con := ⟨_, rfl⟩
                      obtain ⟨news, hnews⟩ : ∃ con, mksL mkBL (k + m) 64 = con := ⟨_, rfl⟩
                      rw [hcon] at hXo HFIN
                      rw [hnews] at hsl HML HCM HFIN
                      clear hcon hnews hnx hng hfin hG hr hx0
                      have hi0 : (k : Int) < (m : Int) := by omega
                      go_wp2_with (at_builtin; refine wl_appendC rfl _ _ _ rfl 1 (.int .u8 0) Tryz.underlying48 info_eB rfl (by decide) rfl hXo rfl hsl HML.out HCM.out (by omega) (by unfold maxLen; omega) (by omega) ?_; intro A' cap' w4 hap; obtain ⟨⟨u, hcu⟩, hfz, hrel9⟩ := HFIN.out A' cap' w4 hap; have HREL := Lib.hid hrel9; clear hrel9)
                      go_roundw
                      case rel => exact HREL.out
                      case measure => simp [intOf]; omega
                · obtain rfl : m = k := by omega
                  go_wp2_with fail
                  go_loopw [14] (fun i wx => KnownNw wo m i wx) (fun i _ => m - (intOf i).toNat)
                  case atStart => exact ⟨0, Nat.zero_le _, rfl, Fr.refl _ _⟩
                  case round =>
                    obtain ⟨k, hk, rfl, hq⟩ := hrel
                    obtain ⟨wp, rfl⟩ : ∃ wp : World, wp = wr := ⟨_, rfl⟩
                    by_cases hlt : k < m
                    · obtain ⟨X, c', hgc, hgx⟩ := hG.cells hlt
                      have hNk := hN k hlt
                      have HGX := Lib.hid hgx
                      clear hgx
                      have hi0 : (k : Int) < (m : Int) := by omega
                      have hs5 := hs.fr hfo h0
                      obtain ⟨b, o, rfl, hF, hc⟩ := hs5.hdr hlt
                      have hcp := (hq.cell (p := ⟨b, o + k, none⟩) (World.block_lt_of_cell? _ _ hc) (fun h => h)).trans hc
                      go_wp2_with fail
                      go_loopw [15] (fun i wx => KnownNw wp (N k) i wx) (fun i _ => N k - (intOf i).toNat)
                      case atStart => exact ⟨0, Nat.zero_le _, rfl, Fr.refl _ _⟩
                      case round =>
                        obtain ⟨j, hj, rfl, hq2⟩ := hrel
                        have hcr := (hq2.cell (p := ⟨b, o + k, none⟩) (World.block_lt_of_cell? _ _ hcp) (fun h => h)).trans hcp
                        by_cases hltj : j < N k
                        · obtain ⟨g, rfl, hcx⟩ := grown_cells (z := 1) (l := mkBL k j) rfl (by omega) HGX.out (conB_at' hmkl m N k j hltj)
                          have hcx2 := cells_nw hcx (hq.tr hq2)
                          have hgc2 := ((hq.tr hq2).cell (p := ⟨gg, k, none⟩) (World.block_lt_of_cell? _ _ hgc) (fun h => h)).trans hgc
                          have hmk : ∀ n : Later wr, _ := fun n => markB_any n.at_ k j (by omega) (by omega)
                          obtain ⟨g2, hA2, hcl⟩ := (hrow.nw (hq.tr hq2)).cell hmkl hlt hltj
                          have hMK : mkBL k j = [B8 (mkB k j)] := rfl
                          rw [hMK] at hcx2 hcl
                          obtain ⟨x, hxx⟩ : ∃ x, mkB k j = x := ⟨_, rfl⟩
                          rw [hxx] at hmk hcx2 hcl
                          have HMK := Lib.hid hmk
                          have d2 := fun (n : Later wr) => n.cell (show wr.cell? ⟨g, j, none⟩ = some (B8 (x)) by have h := hcx2 0 _ rfl; rwa [Nat.mul_one] at h)
                          have d4 := fun (n : Later wr) => n.cell (show wr.cell? ⟨g2, j, none⟩ = some (B8 (x)) by have h := hcl 0 _ rfl; rwa [Nat.mul_one] at h)
                          rw [hA2] at hcr
                          have d1 := fun (n : Later wr) => n.cell hgc2
                          have d3 := fun (n : Later wr) => n.cell hcr
                          clear hmk hcx hcx2 hcl hMK hxx hgc hc hcp
                          have hi1 : (j : Int) < (N k : Int) + 64 := by omega
                          have hi2 : (j : Int) < (N k : Int) := by omega
                          have hi6 : decide ((j : Int) < (N k : Int)) = true := decide_eq_true hi2
                          have hi7 : decide (j < N k) = true := decide_eq_true hltj
                          have hi8 : decide ((j : Int) < (N k : Int) + 64) = true := decide_eq_true hi1
                          have hi9 : decide (j < N k + 64) = true := decide_eq_true (by omega)
                          go_wp2_with fail
                          refine wp_region_later (by kernel_rfl) (by kernel_rfl) ?_
                          repeat (go_big_quiet_step ((go_at_call 93; exact Later.same (HMK.out _))))
                          refine wpQuiet_later fun w5 q5 => ?_
                          clear d1 d2 d3 d4
                          go_wp2_with fail
                          go_roundw
                          case rel => exact ⟨j + 1, by omega, by go_num, hq2.tr q5⟩
                          case measure => simp [intOf]; omega
                        · obtain rfl : j = N k := by omega
                          go_wp2_with fail
                          go_roundw
                          case rel => exact ⟨k + 1, by omega, by go_num, hq.tr hq2⟩
                          case measure => simp [intOf]; omega
                    · go_wp2_with fail
                      go_ret
                      exact ⟨rfl, hfo.tr (Nw.on hq)⟩
end Go.Proofs.YtippdjaakcgeoaaGreat

namespace Go.Proofs.YtippdjaakcgeoaaGreat
open Go Go.RowKit
set_option linter.unusedVariables false
set_option linter.unusedSimpArgs false
def mkEL (k i : Nat) : List Value := entL (mkEn k i)
theorem mkEL_len (k i : Nat) : (mkEL k i).length = 7 := rfl
theorem info_eE : (Tryz.prog.info? 87).map (fun i => (i.zero, i.size, i.bytes)) = some (some (.agg #[I64 0, U8V 0, .slice none 0 0, .slice none 0 0, .slice none 0 0, .slice none 0 0, .slice none 0 0]), 7, 136) := by kernel_rfl
set_option maxRecDepth 100000 in
set_option maxHeartbeats 8000000 in
theorem flatE_c (w : World) (F0 : Nat → Prop) (B : Option Addr) (c : Nat) (m : Nat) (A : Nat → Option Addr) (N cp : Nat → Nat) (f : Nat → List Value) (hs : Sl w F0 B (hdrs m A N cp)) (hr : RowsC w 87 7 m A N cp f) (hfar : FarC m A cp) (h0 : ∀ b, F0 b → ¬ InC m A cp b)
    (hm : m ≤ 1000000000) (hN : ∀ k, k < m → N k ≤ 100000000000) :
    Calls Tryz.prog 125 #[.slice B m c] w fun e w' => e = .returned (.bool true) ∧ Fr (InC m A cp) w w' := by
  have hmkl := mkEL_len
  go_enter Tryz.func125, Tryz.ntmps125
  go_wp2_with fail
  go_loopw [3] (fun i wr => Fl1o mkEL 87 7 w m A N cp i wr) (fun i _ => m - (intOf i).toNat)
  case atStart => exact ⟨0, Nat.zero_le _, rfl, f, hr, fun _ h => by omega, Fr.refl _ _⟩
  case round =>
    obtain ⟨k, hk, rfl, f1, hr1, hb1, hf1⟩ := hrel
    have HB1 := Lib.hid hb1
    clear hb1
    by_cases hlt : k < m
    · obtain ⟨b, o, rfl, hF, hc⟩ := (hs.fr hf1 h0).hdr hlt
      have hNk := hN k hlt
      go_wp2_with fail
      go_loopw [4] (fun i wx => Fl1i mkEL 87 7 w m A N cp k i wx) (fun i _ => N k - (intOf i).toNat)
      case atStart => exact ⟨0, f1, Nat.zero_le _, rfl, hr1, HB1.out, (by simp [mksL]), hf1⟩
      case round =>
        obtain ⟨j, f2, hj, rfl, hr2, hb2, ht2, hf2⟩ := hrel
        have HB2 := Lib.hid hb2
        have HT2 := Lib.hid ht2
        clear hb2 ht2 hc
        obtain ⟨b', o', hB, hF', hc⟩ := (hs.fr hf2 h0).hdr hlt
        injection hB with hB
        injection hB with hB1' hB2' _
        subst hB1' hB2'
        by_cases hltj : j < N k
        · have ho := hr2 k hlt
          obtain ⟨g, hA, hho, o1⟩ := ho.at_ (by have := ho.cap_le.1; omega)
          have hth : ∀ w', Nw wr w' → w'.there g (j * 7) 7 := fun w' q => (o1.fr q (fun _ _ h => h)).thereAt hltj
          have hmk : ∀ n : Later wr, _ := fun n => markEntry_any n.at_ k j (by omega) (by omega)
          have hnx : ∀ w1, Nw wr w1 → ∀ w', w' = w1.setCells g (j * 7) (entL (mkEn k j)) → Fl1i mkEL 87 7 w m A N cp k (.int .i64 ((j : Int) + 1)) w' := fun w1 q w' h => Fl1i.next hmkl hfar hlt hltj (hr2.nw q) HB2.out HT2.out (hf2.tr (Nw.on q)) hA h
          obtain ⟨x, hxx⟩ : ∃ x, mkEn k j = x := ⟨_, rfl⟩
          rw [hxx] at hmk hnx
          have hone := entA_one x
          have hsz : (entA x).size = 7 := rfl
          have HTH := Lib.hid hth
          have HMK := Lib.hid hmk
          have HNX := Lib.hid hnx
          clear hth hmk hnx o1 ho
          rw [hA] at hc
          have hi0 : (j : Int) < (N k : Int) := by omega
          have hi1 : decide ((j : Int) < (N k : Int)) = true := decide_eq_true hi0
          have hi2 : decide (j < N k) = true := decide_eq_true hltj
          have d1 := fun (n : Later wr) => n.cell hc
          go_wp2_with fail
          refine wp_region_later_tail 9 (by kernel_rfl) (by kernel_rfl) ?_
          simp only [List.take_succ_cons, List.take_zero, List.drop_succ_cons, List.drop_zero]
          repeat (go_big_quiet_step ((go_at_call 138; exact Later.call (HMK.out _))))
          refine wpQuiet_nil ?_
          intro w5 q5
          have hth5 := HTH.out w5 q5
          refine wpList_store_mid rfl 87 _ _ rfl g (j * 7) (entA x) ?_ ?_ ?_ ?_ ?_ ?_
          · rfl
          · rfl
          · exact hth5
          · kernel_rfl
          · exact hone
          · have hw5 : ∀ w', w' = w5.setCells g (j * 7) (entA x).toList → w' = w5.setCells g (j * 7) (entL x) := fun w' h => h
            obtain ⟨w6, hw6⟩ : ∃ w', w' = w5.setCells g (j * 7) (entA x).toList := ⟨_, rfl⟩
            rw [← hw6]
            have h6 := HNX.out w5 q5 w6 (hw5 w6 hw6)
            have H6 := Lib.hid h6
            clear hw6 hw5 h6 hth5
            go_wp2_with fail
            refine ⟨H6.out, ?_⟩
            simp [intOf]
            omega
        · have hfk : f2 k = mksL mkEL k (N k) := by
            have h1 := HT2.out
            have h2 := (hr2 k hlt).len
            rwa [List.take_of_length_le (by rw [h2]; exact Nat.mul_le_mul_right _ (by omega)), show j = N k by omega] at h1
          have HFK := Lib.hid hfk
          clear hfk
          obtain rfl : j = N k := by omega
          go_wp2_with fail
          go_roundw
          case rel =>
            refine ⟨k + 1, by omega, by go_num, f2, hr2, fun i hi => ?_, hf2⟩
            by_cases e : i = k
            · subst e; exact HFK.out
            · exact HB2.out i (by omega)
          case measure => simp [intOf]; omega
    · obtain rfl : m = k := by omega
      have hr2 : RowsC wr 87 7 m A N cp (fun j => mksL mkEL j (N j)) := hr1.congr HB1.out
      have hsz1 := hf1.size
      clear hr1 HB1
      go_wp2_with (at_make; refine wl_make rfl _ _ _ rfl 24 (.slice none 0 0) Tryz.underlying109 info_he rfl .i64 .i64 _ _ m rfl rfl rfl rfl (by omega) (by unfold maxLen; omega) ?_; intro w2 ho2 q2)
      have hf2 := hf1.tr (Nw.on q2)
      have hr3 := hr2.nw q2
      have hApG : FlG mkEL 87 43 7 w m A N cp wr.heap.size (conA mkEL N) 0 w2 := ⟨_, fun _ => none, fun _ => 0, ho2, fun _ h => by omega, fun _ h => by omega, fun _ h => by omega, hr3, hf2⟩
      obtain ⟨gg, hgg⟩ : ∃ gg, wr.heap.size = gg := ⟨_, rfl⟩
      rw [hgg] at hApG hsz1 ⊢
      clear hgg hr2 hf2 hr3 ho2 q2 hf1
      go_loopw [6] (fun i wx => FlGo mkEL 87 43 7 w m A N cp gg (conA mkEL N) i wx) (fun i _ => m - (intOf i).toNat)
      case atStart => exact ⟨0, Nat.zero_le _, rfl, hApG⟩
      case round =>
        clear hApG
        obtain ⟨k, hk, rfl, hG⟩ := hrel
        obtain ⟨wo, rfl⟩ : ∃ wo : World, wo = wr := ⟨_, rfl⟩
        have hrow := hG.rows
        have hfo := hG.fr
        by_cases hlt : k < m
        · obtain ⟨b, o, rfl, hF, hc⟩ := (hs.fr hfo h0).hdr hlt
          have hNk := hN k hlt
          have hAk : ∀ b, inA (hom (A k) (cp k)) b → b < wo.heap.size := fun b hb => (hrow k hlt).lt b hb
          have hFk : ¬ inA (hom (A k) (cp k)) b := fun h => h0 b hF ⟨k, hlt, h⟩
          have hbl := World.block_lt_of_cell? _ _ hc
          go_wp2_with fail
          go_loopw [7, 8] (fun v i wx => FlXi mkEL 87 7 A N cp k wo v i wx) (fun _ i _ => 64 - (intOf i).toNat)
          case atStart => exact ⟨0, A k, cp k, by omega, rfl, rfl, Fr.refl _ _, by simpa using hrow k hlt, .inl ⟨rfl, rfl⟩, hrow k hlt⟩
          case round =>
            obtain ⟨j, X, c', hj, rfl, rfl, hX⟩ := hrel
            have hcx := (hX.1.cell (p := ⟨b, o + k, none⟩) hbl hFk).trans hc
            by_cases hltj : j < 64
            · have hmk := fun w => markEntry_any w k (N k + j) (by omega) (by omega)
              have hju : (((N k + j : Nat)) : Int) = (N k : Int) + (j : Int) := by omega
              rw [hju] at hmk
              have hnx := fun (w1 w' : World) (A' : Option Addr) (cap' : Nat) (q1 : Nw wr w1) (h : AppC w1 87 7 X (N k + j) c' 1 (mksL mkEL k (N k + j)) (entL (mkEn k (N k + j))) A' cap' w') =>
                FlX.next hX q1 (by omega) (mksL_len hmkl _ _) (by omega) (mksL_take hmkl _ _ _ (by omega)) hAk h
              have hnx2 : ∀ (w1 w' : World) (A' : Option Addr) (cap' : Nat), Nw wr w1 → AppC w1 87 7 X (N k + j) c' 1 (mksL mkEL k (N k + j)) (entL (mkEn k (N k + j))) A' cap' w' → FlXi mkEL 87 7 A N cp k wo (.slice A' (N k + j + 1) cap') (.int .i64 ((j : Int) + 1)) w' := fun w1 w' A' cap' q1 h =>
                ⟨j + 1, A', cap', by omega, by go_num, rfl, by have := hnx w1 w' A' cap' q1 h; have e : mksL mkEL k (N k + (j + 1)) = mksL mkEL k (N k + j) ++ entL (mkEn k (N k + j)) := mksL_succ _ _ _; rw [e]; exact this⟩
              have hXo := hX.2.1
              have hcm := entL_cell (mkEn k (N k + j))
              have hcs : (mksL mkEL k (N k + j)).length = (N k + j) * 7 := mksL_len hmkl _ _
              generalize mksL mkEL k (N k + j) = con at hnx2 hXo hcs
              obtain ⟨x, hxx⟩ : ∃ x, mkEn k (N k + j) = x := ⟨_, rfl⟩
              rw [hxx] at hmk hnx2 hcm
              have hlen : (entL x).length = 1 * 7 := rfl
              have HMK := Lib.hid hmk
              have HNX := Lib.hid hnx2
              have HCS := Lib.hid hcs
              have HX := Lib.hid hX
              clear hmk hnx hnx2 hju hc hcs hX hxx
              go_wp2_with fail
              refine (HMK.out _).mono ?_
              rintro e w3 ⟨rfl, q3⟩
              have sln := sl_new w3 87 (entL x) _ rfl
              have qa : Nw w3 (w3.alloc (.cells (entA x) 87)) := (Fr.refl (fun _ => False) _).alloc _
              have hoa := (hXo.nw q3).nw qa
              obtain ⟨V2, hV2⟩ : ∃ V, V = w3.alloc (.cells (entA x) 87) := ⟨_, rfl⟩
              rw [← hV2] at sln qa hoa
              have HV2 := Lib.hid hV2
              clear hV2
              go_wp2_with (at_builtin; rw [← HV2.out]; refine wl_appendC rfl _ _ _ rfl 136 (.agg #[I64 0, U8V 0, .slice none 0 0, .slice none 0 0, .slice none 0 0, .slice none 0 0, .slice none 0 0]) Tryz.underlying43 info_eE rfl (by decide) rfl hoa rfl sln hlen hcm (by omega) (by unfold maxLen; omega) (by omega) ?_; intro A' cap' w4 hap)
              go_roundw
              case rel => exact HNX.out _ _ _ _ (q3.tr qa) hap
              case measure => simp [intOf]; omega
            · obtain rfl : j = 64 := by omega
              obtain ⟨cells, hgo⟩ := hG.own
              have hng : ¬ inA (hom (A k) (cp k)) gg := fun h => by
                obtain ⟨cur0, hbg, _⟩ := hgo.blk
                exact (hrow k hlt).offB hbg (by decide) h
              have hgo2 := hgo.fr hX.1 (fun j hj h => by rw [(inA_some _ _).1 hj] at h; exact hng h)
              obtain ⟨u, hcu⟩ : ∃ u, wr.cell? ⟨gg, k, none⟩ = some u := hgo2.cellEx (by omega)
              have hfz := hgo2.frozenAt k
              have hnx := fun (w' : World) (h : w' = _) => FlG.next (w' := w') (EE := 43) (by decide) (by omega) hG hsz1 hr hfar hlt hX h
              have HNX := Lib.hid hnx
              have hi0 : (k : Int) < (m : Int) := by omega
              have HX := Lib.hid hX
              have HGG := Lib.hid hG
              clear hnx hgo hgo2 hc hcx hX hG
              go_wp2_with fail
              go_roundw
              case rel => exact ⟨k + 1, by omega, by go_num, HNX.out _ rfl⟩
              case measure => simp [intOf]; omega
        · obtain rfl : m = k := by omega
          go_wp2_with fail
          go_loopw [9] (fun i wx => KnownNw wo m i wx) (fun i _ => m - (intOf i).toNat)
          case atStart => exact ⟨0, Nat.zero_le _, rfl, Fr.refl _ _⟩
          case round =>
            obtain ⟨k, hk, rfl, hq⟩ := hrel
            obtain ⟨wp, rfl⟩ : ∃ wp : World, wp = wr := ⟨_, rfl⟩
            by_cases hlt : k < m
            · obtain ⟨X, c', hgc, hgx⟩ := hG.cells hlt
              have hNk := hN k hlt
              have hgc2 := (hq.cell (p := ⟨gg, k, none⟩) (World.block_lt_of_cell? _ _ hgc) (fun h => h)).trans hgc
              have HGX := Lib.hid hgx
              clear hgc hgx
              have hi0 : (k : Int) < (m : Int) := by omega
              go_wp2_with fail
              go_loopw [10] (fun i wx => KnownNw wp (N k + 64) i wx) (fun i _ => N k + 64 - (intOf i).toNat)
              case atStart => exact ⟨0, Nat.zero_le _, rfl, Fr.refl _ _⟩
              case round =>
                obtain ⟨j, hj, rfl, hq2⟩ := hrel
                have hgc3 := (hq2.cell (p := ⟨gg, k, none⟩) (World.block_lt_of_cell? _ _ hgc2) (fun h => h)).trans hgc2
                by_cases hltj : j < N k + 64
                · obtain ⟨g, rfl, hcx⟩ := grown_cells (z := 7) (l := mkEL k j) rfl (by omega) HGX.out (conA_at hmkl N k j hltj)
                  have hcx2 := cells_nw hcx (hq.tr hq2)
                  obtain ⟨b, o, rfl, hF, hc⟩ := ((hs.fr hfo h0).fr (hq.tr hq2) (fun _ _ h => h)).hdr hlt
                  have hmk : ∀ n : Later wr, _ := fun n => markEntry_any n.at_ k j (by omega) (by omega)
                  have hsm : ∀ n : Later wr, Calls Tryz.prog 158 #[.agg (entA (mkEn k j)), .agg (entA (mkEn k j))] n.at_ fun e w' => e = .returned (.bool true) ∧ Nw n.at_ w' := fun n =>
                    (same_ent n.at_ (fun _ => False) (fun _ => False) (mkEn k j) (mkEn k j) (EntIn.mark _ _ _ _) (EntIn.mark _ _ _ _) EntSz.zero').mono fun e w' h => ⟨by simpa using h.1, h.2⟩
                  have hlk := fun (h : j < N k) => (hrow.nw (hq.tr hq2)).cell hmkl hlt h
                  have hMK : mkEL k j = entL (mkEn k j) := rfl
                  rw [hMK] at hcx2 hlk
                  obtain ⟨x, hxx⟩ : ∃ x, mkEn k j = x := ⟨_, rfl⟩
                  rw [hxx] at hmk hsm hcx2 hlk
                  have HMK := Lib.hid hmk
                  have HSM := Lib.hid hsm
                  have HLK := Lib.hid hlk
                  have L1 := Lib.hid (Later.cells hcx2)
                  clear hmk hsm hcx hcx2 hlk hMK hxx
                  have hi1 : (j : Int) < (N k : Int) + 64 := by omega
                  have hi4 : decide ((j : Int) < (N k : Int) + 64) = true := decide_eq_true hi1
                  have hi5 : decide (j < N k + 64) = true := decide_eq_true hltj
                  have d1 := fun (n : Later wr) => n.cell hgc3
                  have d3 := fun (n : Later wr) => n.cell hc
                  by_cases hjk : j < N k
                  · obtain ⟨g2, hA2, hcl⟩ := HLK.out hjk
                    rw [hA2] at d3
                    have L2 := Lib.hid (Later.cells hcl)
                    have hi2 : (j : Int) < (N k : Int) := by omega
                    have hi6 : decide ((j : Int) < (N k : Int)) = true := decide_eq_true hi2
                    have hi7 : decide (j < N k) = true := decide_eq_true hjk
                    clear hcl hc HLK
                    go_wp2_with fail
                    refine wp_region_later (by kernel_rfl) (by kernel_rfl) ?_
                    iterate 6 (go_big_quiet_step (fail))
                    refine quiet_load_cells (by kernel_rfl) 87 _ rfl g (j * 7) rfl _ _ L1.out Tryz.underlying87 rfl (by kernel_rfl) ?_
                    simp only [Act.put, List.setIfInBounds_toArray, List.set_cons_succ, List.set_cons_zero]
                    iterate 20 (go_big_quiet_step ((first | (go_at_call 138; exact Later.call (HMK.out _)) | (go_at_call 158; exact Later.call (HSM.out _)))))
                    refine quiet_load_cells (by kernel_rfl) 87 _ rfl g2 (j * 7) rfl _ _ L2.out Tryz.underlying87 rfl (by kernel_rfl) ?_
                    simp only [Act.put, List.setIfInBounds_toArray, List.set_cons_succ, List.set_cons_zero]
                    repeat (go_big_quiet_step ((first | (go_at_call 138; exact Later.call (HMK.out _)) | (go_at_call 158; exact Later.call (HSM.out _)))))
                    refine wpQuiet_later fun w5 q5 => ?_
                    clear d1 d3
                    go_wp2_with fail
                    go_roundw
                    case rel => exact ⟨j + 1, by omega, by go_num, hq2.tr q5⟩
                    case measure => simp [intOf]; omega
                  · have hi2 : decide ((j : Int) < (N k : Int)) = false := decide_eq_false (by omega)
                    have hi3 : decide (j < N k) = false := decide_eq_false (by omega)
                    clear hc HLK
                    go_wp2_with fail
                    refine wp_region_later (by kernel_rfl) (by kernel_rfl) ?_
                    iterate 6 (go_big_quiet_step (fail))
                    refine quiet_load_cells (by kernel_rfl) 87 _ rfl g (j * 7) rfl _ _ L1.out Tryz.underlying87 rfl (by kernel_rfl) ?_
                    simp only [Act.put, List.setIfInBounds_toArray, List.set_cons_succ, List.set_cons_zero]
                    repeat (go_big_quiet_step ((first | (go_at_call 138; exact Later.call (HMK.out _)) | (go_at_call 158; exact Later.call (HSM.out _)))))
                    refine wpQuiet_later fun w5 q5 => ?_
                    clear d1 d3
                    go_wp2_with fail
                    go_roundw
                    case rel => exact ⟨j + 1, by omega, by go_num, hq2.tr q5⟩
                    case measure => simp [intOf]; omega
                · obtain rfl : j = N k + 64 := by omega
                  go_wp2_with fail
                  go_roundw
                  case rel => exact ⟨k + 1, by omega, by go_num, hq.tr hq2⟩
                  case measure => simp [intOf]; omega
            · obtain rfl : m = k := by omega
              obtain ⟨cells, hgo⟩ := hG.own
              have hgo2 := hgo.fr hq (fun _ _ h => h)
              have hrow2 := hrow.nw hq
              have hfo2 := hfo.tr (Nw.on hq)
              have hA2 : FlG mkEL 87 43 7 w m A N cp gg (conB mkEL m N) 0 wp := ⟨cells, fun _ => none, fun _ => 0, hgo2, fun _ h => by omega, fun _ h => by omega, fun _ h => by omega, hrow2, hfo2⟩
              clear hG hrow hfo hgo hgo2 hrow2 hfo2 hq
              go_wp2_with fail
              go_loopw [11] (fun i wx => FlGo mkEL 87 43 7 w m A N cp gg (conB mkEL m N) i wx) (fun i _ => m - (intOf i).toNat)
              case atStart => exact ⟨0, Nat.zero_le _, rfl, hA2⟩
              case round =>
                clear hA2
                obtain ⟨k, hk, rfl, hG⟩ := hrel
                obtain ⟨wo, rfl⟩ : ∃ wo : World, wo = wr := ⟨_, rfl⟩
                have hrow := hG.rows
                have hfo := hG.fr
                by_cases hlt : k < m
                · obtain ⟨b, o, rfl, hF, hc⟩ := (hs.fr hfo h0).hdr hlt
                  have hNk := hN k hlt
                  have hAk : ∀ b, inA (hom (A k) (cp k)) b → b < wo.heap.size := fun b hb => (hrow k hlt).lt b hb
                  have hbl := World.block_lt_of_cell? _ _ hc
                  go_wp2_with (at_make; refine wl_makeZ rfl _ _ _ rfl 136 (.agg #[I64 0, U8V 0, .slice none 0 0, .slice none 0 0, .slice none 0 0, .slice none 0 0, .slice none 0 0]) Tryz.underlying43 info_eE .i64 .i64 _ _ 64 rfl rfl rfl rfl (by omega) (by unfold maxLen; omega) ?_; intro wy csy hoy qy)
                  obtain ⟨gm, hgm⟩ : ∃ gm, wo.heap.size = gm := ⟨_, rfl⟩
                  have hgm2 : wo.heap.size ≤ gm := Nat.le_of_eq hgm
                  rw [hgm] at hoy ⊢
                  clear hgm
                  have HOY := Lib.hid hoy
                  clear hoy
                  go_wp2_with fail
                  go_loopw [13] (fun i wx => ManyL mkEL 87 7 (k + m) gm wy i wx) (fun i _ => 64 - (intOf i).toNat)
                  case atStart => exact ⟨0, csy, by omega, rfl, HOY.out, (by simp [mksL]), Fr.refl _ _⟩
                  case round =>
                    obtain ⟨j, cs, hj, rfl, hom_, ht, hfm⟩ := hrel
                    have HT := Lib.hid ht
                    clear ht HOY
                    have hcl : cs.length = 64 * 7 := hom_.1
                    have HCL := Lib.hid hcl
                    clear hcl
                    by_cases hltj : j < 64
                    · have hmk := fun w => markEntry_any w (k + m) j (by omega) (by omega)
                      have hju : ((k + m : Nat) : Int) = (k : Int) + (m : Int) := by omega
                      rw [hju] at hmk
                      have hnx : ∀ w1, Nw wr w1 → ∀ w', w' = w1.setCells gm (j * 7) (entL (mkEn (k + m) j)) → ManyL mkEL 87 7 (k + m) gm wy (.int .i64 ((j : Int) + 1)) w' := fun w1 q w' h => ManyL.next (w' := w') hmkl (hom_.fr q (fun _ _ h => h)) HT.out (hfm.tr (Nw.on q)) hltj h
                      have hth : ∀ w', Nw wr w' → w'.there gm (j * 7) 7 := fun w' q => (hom_.fr q (fun _ _ h => h)).thereAt hltj
                      obtain ⟨x, hxx⟩ : ∃ x, mkEn (k + m) j = x := ⟨_, rfl⟩
                      rw [hxx] at hmk hnx
                      have hone := entA_one x
                      have HMK := Lib.hid hmk
                      have HNX := Lib.hid hnx
                      have HTH := Lib.hid hth
                      clear hmk hnx hju hth hxx
                      have hi0 : (j : Int) < 64 := by omega
                      have hi1 : decide ((j : Int) < 64) = true := decide_eq_true hi0
                      have hi2 : decide (j < 64) = true := decide_eq_true hltj
                      go_wp2_with fail
                      refine (HMK.out _).mono ?_
                      rintro e w5 ⟨rfl, q5⟩
                      have hth5 := HTH.out w5 q5
                      have hw5 : ∀ w', w' = w5.setCells gm (j * 7) (entA x).toList → w' = w5.setCells gm (j * 7) (entL x) := fun w' h => h
                      obtain ⟨w6, hw6⟩ : ∃ w', w' = w5.setCells gm (j * 7) (entA x).toList := ⟨_, rfl⟩
                      have h6 := HNX.out w5 q5 w6 (hw5 w6 hw6)
                      have H6 := Lib.hid h6
                      have HW6 := Lib.hid hw6
                      clear hw6 hw5 h6
                      go_wp2_with (refine wpList_store_mid rfl 87 _ _ rfl gm (j * 7) (entA x) rfl rfl hth5 (by kernel_rfl) hone ?_; rw [← HW6.out])
                      refine ⟨H6.out, ?_⟩
                      simp [intOf]
                      omega
                    · obtain rfl : j = 64 := by omega
                      have hcs : cs = mksL mkEL (k + m) 64 := by
                        have := HT.out
                        rwa [List.take_of_length_le (by rw [HCL.out]; omega)] at this
                      subst hcs
                      clear HT HCL
                      have hx0 : FlX mkEL 87 7 A N cp k wo (mksL mkEL k (N k)) (A k) (N k) (cp k) wr := by
                        have hf9 : Fr (inA (hom (A k) (cp k))) wo wr := (Nw.on qy).trans hfm (fun j hj => .inr (by rw [hj]; exact hgm2))
                        have ho9 := ((hrow k hlt).fr qy (fun _ _ h => h)).fr hfm (fun j hj e => by have := hAk j hj; omega)
                        exact ⟨hf9, ho9, .inl ⟨rfl, rfl⟩, ho9⟩
                      have hFk : ¬ inA (hom (A k) (cp k)) b := fun h => h0 b hF ⟨k, hlt, h⟩
                      have hcx := (hx0.1.cell (p := ⟨b, o + k, none⟩) hbl hFk).trans hc
                      have hnx := fun (w' : World) (A' : Option Addr) (cap' : Nat) (h : AppC wr 87 7 (A k) (N k) (cp k) 64 (mksL mkEL k (N k)) (mksL mkEL (k + m) 64) A' cap' w') =>
                        FlX.next hx0 (Fr.refl _ _) (by omega) (mksL_len hmkl _ _) (Nat.le_refl _) (mksL_take hmkl _ _ _ (Nat.le_refl _)) hAk h
                      have hXo := hx0.2.1
                      have hml : (mksL mkEL (k + m) 64).length = 64 * 7 := mksL_len hmkl _ _
                      have hcm : ∀ u ∈ mksL mkEL (k + m) 64, u.oneCell' = true := by
                        intro u hu
                        obtain ⟨l, hl, hu⟩ := List.mem_flatten.1 hu
                        obtain ⟨i, _, rfl⟩ := List.mem_map.1 hl
                        exact entL_cell _ u hu
                      have HCM := Lib.hid hcm
                      have HML := Lib.hid hml
                      clear hml hc hcm
                      obtain ⟨cells2, hgo⟩ := hG.own
                      have hng : ∀ j, inA (some ⟨gg, 0, none⟩) j → ¬ inA (hom (A k) (cp k)) j := fun j hj h => by
                        rw [(inA_some _ _).1 hj] at h
                        obtain ⟨cur0, hbg, _⟩ := hgo.blk
                        exact (hrow k hlt).offB hbg (by decide) h
                      have hfin : ∀ (A' : Option Addr) (cap' : Nat) (w4 : World), AppC wr 87 7 (A k) (N k) (cp k) 64 (mksL mkEL k (N k)) (mksL mkEL (k + m) 64) A' cap' w4 →
                          (∃ u, w4.cell? ⟨gg, k, none⟩ = some u) ∧ w4.frozen? ⟨gg, k, none⟩ = false ∧ FlGo mkEL 87 43 7 w m A N cp gg (conB mkEL m N) (.int .i64 ((k : Int) + 1)) (w4.setCell ⟨gg, k, none⟩ (.slice A' (N k + 64) cap')) := fun A' cap' w4 hap => by
                        have hx4 := hnx w4 A' cap' hap
                        have hgo4 := hgo.fr hx4.1 hng
                        exact ⟨hgo4.cellEx (by omega), hgo4.frozenAt k, k + 1, by omega, by go_num, FlG.next (EE := 43) (by decide) (by omega) hG hsz1 hr hfar hlt hx4 rfl⟩
                      have HFIN := Lib.hid hfin
                      have hsl := hom_.sl
                      have HG2 := Lib.hid hG
                      have HR2 := Lib.hid hr
                      have HX0 := Lib.hid hx0
                      obtain ⟨con, hcon⟩ : ∃ con, mksL mkEL k (N k) = con := ⟨_, rfl⟩
                      obtain ⟨news, hnews⟩ : ∃ con, mksL mkEL (k + m) 64 = con := ⟨_, rfl⟩
                      rw [hcon] at hXo HFIN
                      rw [hnews] at hsl HML HCM HFIN
                      clear hcon hnews hnx hng hfin hG hr hx0
                      have hi0 : (k : Int) < (m : Int) := by omega
                      go_wp2_with (at_builtin; refine wl_appendC rfl _ _ _ rfl 136 (.agg #[I64 0, U8V 0, .slice none 0 0, .slice none 0 0, .slice none 0 0, .slice none 0 0, .slice none 0 0]) Tryz.underlying43 info_eE rfl (by decide) rfl hXo rfl hsl HML.out HCM.out (by omega) (by unfold maxLen; omega) (by omega) ?_; intro A' cap' w4 hap; obtain ⟨⟨u, hcu⟩, hfz, hrel9⟩ := HFIN.out A' cap' w4 hap; have HREL := Lib.hid hrel9; clear hrel9)
                      go_roundw
                      case rel => exact HREL.out
                      case measure => simp [intOf]; omega
                · obtain rfl : m = k := by omega
                  go_wp2_with fail
                  go_loopw [14] (fun i wx => KnownNw wo m i wx) (fun i _ => m - (intOf i).toNat)
                  case atStart => exact ⟨0, Nat.zero_le _, rfl, Fr.refl _ _⟩
                  case round =>
                    obtain ⟨k, hk, rfl, hq⟩ := hrel
                    obtain ⟨wp, rfl⟩ : ∃ wp : World, wp = wr := ⟨_, rfl⟩
                    by_cases hlt : k < m
                    · obtain ⟨X, c', hgc, hgx⟩ := hG.cells hlt
                      have hNk := hN k hlt
                      have HGX := Lib.hid hgx
                      clear hgx
                      have hi0 : (k : Int) < (m : Int) := by omega
                      have hs5 := hs.fr hfo h0
                      obtain ⟨b, o, rfl, hF, hc⟩ := hs5.hdr hlt
                      have hcp := (hq.cell (p := ⟨b, o + k, none⟩) (World.block_lt_of_cell? _ _ hc) (fun h => h)).trans hc
                      go_wp2_with fail
                      go_loopw [15] (fun i wx => KnownNw wp (N k) i wx) (fun i _ => N k - (intOf i).toNat)
                      case atStart => exact ⟨0, Nat.zero_le _, rfl, Fr.refl _ _⟩
                      case round =>
                        obtain ⟨j, hj, rfl, hq2⟩ := hrel
                        have hcr := (hq2.cell (p := ⟨b, o + k, none⟩) (World.block_lt_of_cell? _ _ hcp) (fun h => h)).trans hcp
                        by_cases hltj : j < N k
                        · obtain ⟨g, rfl, hcx⟩ := grown_cells (z := 7) (l := mkEL k j) rfl (by omega) HGX.out (conB_at' hmkl m N k j hltj)
                          have hcx2 := cells_nw hcx (hq.tr hq2)
                          have hgc2 := ((hq.tr hq2).cell (p := ⟨gg, k, none⟩) (World.block_lt_of_cell? _ _ hgc) (fun h => h)).trans hgc
                          have hmk : ∀ n : Later wr, _ := fun n => markEntry_any n.at_ k j (by omega) (by omega)
                          have hsm : ∀ n : Later wr, Calls Tryz.prog 158 #[.agg (entA (mkEn k j)), .agg (entA (mkEn k j))] n.at_ fun e w' => e = .returned (.bool true) ∧ Nw n.at_ w' := fun n =>
                            (same_ent n.at_ (fun _ => False) (fun _ => False) (mkEn k j) (mkEn k j) (EntIn.mark _ _ _ _) (EntIn.mark _ _ _ _) EntSz.zero').mono fun e w' h => ⟨by simpa using h.1, h.2⟩
                          obtain ⟨g2, hA2, hcl⟩ := (hrow.nw (hq.tr hq2)).cell hmkl hlt hltj
                          have hMK : mkEL k j = entL (mkEn k j) := rfl
                          rw [hMK] at hcx2 hcl
                          obtain ⟨x, hxx⟩ : ∃ x, mkEn k j = x := ⟨_, rfl⟩
                          rw [hxx] at hmk hsm hcx2 hcl
                          have HMK := Lib.hid hmk
                          have HSM := Lib.hid hsm
                          have L1 := Lib.hid (Later.cells hcx2)
                          have L2 := Lib.hid (Later.cells hcl)
                          rw [hA2] at hcr
                          have d1 := fun (n : Later wr) => n.cell hgc2
                          have d3 := fun (n : Later wr) => n.cell hcr
                          clear hmk hsm hcx hcx2 hcl hMK hxx hgc hc hcp
                          have hi1 : (j : Int) < (N k : Int) + 64 := by omega
                          have hi2 : (j : Int) < (N k : Int) := by omega
                          have hi6 : decide ((j : Int) < (N k : Int)) = true := decide_eq_true hi2
                          have hi7 : decide (j < N k) = true := decide_eq_true hltj
                          have hi8 : decide ((j : Int) < (N k : Int) + 64) = true := decide_eq_true hi1
                          have hi9 : decide (j < N k + 64) = true := decide_eq_true (by omega)
                          go_wp2_with fail
                          refine wp_region_later (by kernel_rfl) (by kernel_rfl) ?_
                          iterate 6 (go_big_quiet_step (fail))
                          refine quiet_load_cells (by kernel_rfl) 87 _ rfl g2 (j * 7) rfl _ _ L2.out Tryz.underlying87 rfl (by kernel_rfl) ?_
                          simp only [Act.put, List.setIfInBounds_toArray, List.set_cons_succ, List.set_cons_zero]
                          iterate 12 (go_big_quiet_step ((first | (go_at_call 138; exact Later.call (HMK.out _)) | (go_at_call 158; exact Later.call (HSM.out _)))))
                          refine quiet_load_cells (by kernel_rfl) 87 _ rfl g (j * 7) rfl _ _ L1.out Tryz.underlying87 rfl (by kernel_rfl) ?_
                          simp only [Act.put, List.setIfInBounds_toArray, List.set_cons_succ, List.set_cons_zero]
                          repeat (go_big_quiet_step ((first | (go_at_call 138; exact Later.call (HMK.out _)) | (go_at_call 158; exact Later.call (HSM.out _)))))
                          refine wpQuiet_later fun w5 q5 => ?_
                          clear d1 d3
                          go_wp2_with fail
                          go_roundw
                          case rel => exact ⟨j + 1, by omega, by go_num, hq2.tr q5⟩
                          case measure => simp [intOf]; omega
                        · obtain rfl : j = N k := by omega
                          go_wp2_with fail
                          go_roundw
                          case rel => exact ⟨k + 1, by omega, by go_num, hq.tr hq2⟩
                          case measure => simp [intOf]; omega
                    · go_wp2_with fail
                      go_ret
                      exact ⟨rfl, hfo.tr (Nw.on hq)⟩
end Go.Proofs.YtippdjaakcgeoaaGreat
