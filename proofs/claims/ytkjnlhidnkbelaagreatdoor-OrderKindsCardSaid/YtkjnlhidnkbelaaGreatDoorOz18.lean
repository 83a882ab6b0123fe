/- Lemmas of the walks: ApB, ApN, ApD, OhA. (Laid together by shake.py.) -/
import Derived.Deep.DeepCutAuto
import Derived.Test.YtkjnlhidnkbelaaGreatDoorProg
import Derived.Test.YtkjnlhidnkbelaaGreatDoorOz01
import Derived.Test.YtkjnlhidnkbelaaGreatDoorOz17
set_option linter.unusedVariables false
set_option linter.unusedSimpArgs false
namespace Go.Proofs.YtkjnlhidnkbelaaGreatDoor
open Go Go.RowKit

theorem flip_w {P : Program} {f : FuncId} {args : Array Value} {w : World} {v : Value} (h : Calls P f args w fun e w' => e = .returned v ∧ w = w') : Calls P f args w fun e w' => e = .returned v ∧ w' = w := h.mono fun _ _ ⟨a, b⟩ => ⟨a, b.symm⟩

set_option maxRecDepth 100000 in
set_option maxHeartbeats 4000000 in
theorem flatBytes_any (w : World) (F0 : Nat → Prop) (B : Option Addr) (c : Nat) (m : Nat) (A : Nat → Option Addr) (N cp : Nat → Nat) (f : Nat → List UInt8) (hs : Sl w F0 B (hdrs m A N cp)) (hr : RowsAt w m A N cp f) (hfar : FarR m A) (h0 : ∀ b, F0 b → ¬ InR m A b)
    (hm : m ≤ 1000000000) (hN : ∀ k, k < m → N k ≤ 1000000000000) :
    Calls Tryz.prog 119 #[.slice B m c] w fun e w' => e = .returned (.bool true) ∧ Fr (InR m A) w w' := by
  go_enter Tryz.func119, Tryz.ntmps119
  go_wp2_with fail
  go_loopw [3] (fun i wr => Ap1o w m A N cp i wr) (fun i _ => m - (intOf i).toNat)
  case atStart => exact ⟨0, Nat.zero_le _, rfl, f, hr, fun _ h => by omega, Fr.refl _ _⟩
  case round =>
    obtain ⟨k, hk, rfl, f1, hr1, hb1, hf1⟩ := hrel
    have HB1 := Lib.hid hb1
    clear hb1
    by_cases hlt : k < m
    · obtain ⟨b, o, rfl, hF, hc⟩ := (hs.fr hf1 h0).hdr hlt
      have hNk := hN k hlt
      go_wp2_with fail
      go_loopw [4] (fun i wx => Ap1i w m A N cp k i wx) (fun i _ => N k - (intOf i).toNat)
      case atStart => exact ⟨0, f1, Nat.zero_le _, rfl, hr1, HB1.out, rfl, hf1⟩
      case round =>
        obtain ⟨j, f2, hj, rfl, hr2, hb2, ht2, hf2⟩ := hrel
        have HB2 := Lib.hid hb2
        have HT2 := Lib.hid ht2
        clear hb2 ht2 hc
        obtain ⟨b', o', hB, hF', hc⟩ := (hs.fr hf2 h0).hdr hlt
        injection hB with hB
        injection hB with hB1' hB2' _
        subst hB1' hB2'
        by_cases hltj : j < N k
        · have ho := hr2 k hlt
          obtain ⟨g, hA⟩ : ∃ g, A k = some ⟨g, 0, none⟩ := by
            rcases ho.2 with ⟨_, h, _⟩ | ⟨g, cur, h, _⟩
            · omega
            · exact ⟨g, h⟩
          have hfz : ∀ i, wr.frozen? ⟨g, i, none⟩ = false := by
            rw [hA] at ho
            exact fun i => ho.frozenAt i
          obtain ⟨u, hcu⟩ : ∃ u, wr.cell? ⟨g, j, none⟩ = some u := by
            rw [hA] at ho
            have hl := ho.1
            exact ⟨_, (ho.cellAt (k := j) (by omega)).trans (List.getElem?_eq_getElem (by omega))⟩
          have hmk := fun w => markByte_any w (k : Int) (j : Int) (by omega) (by omega) (by omega) (by omega)
          rw [Int.toNat_natCast, Int.toNat_natCast] at hmk
          have HMK := Lib.hid hmk
          clear hmk
          have hnx := fun (w' : World) (h : w' = _) => Ap1i.next (w := w) (w' := w') hfar hlt hltj (f := f2) (wr := wr.drew) (hr2.fr (S := fun _ => False) (Fr.refl _ wr).drew (fun _ _ _ _ h => h)) HB2.out HT2.out hf2.drew hA h
          have HNX := Lib.hid hnx
          clear hnx
          rw [hA] at hc
          have hi0 : (j : Int) < (N k : Int) := by omega
          go_wp2_with fail
          refine wp_region_tail 9 (by kernel_rfl) (by kernel_rfl) ?_
          simp only [List.take_succ_cons, List.take_zero, List.drop_succ_cons, List.drop_zero]
          repeat (first | still_step | still_call (flip_w (HMK.out _)))
          refine wpStill_nil ?_
          go_wp2_with fail
          refine ⟨HNX.out _ rfl, ?_⟩
          simp [intOf]
          omega
        · have hfk : f2 k = mks k (N k) := by
            have h1 := HT2.out
            have h2 := hr2.len hlt
            rwa [List.take_of_length_le (by omega), show j = N k by omega] at h1
          have HFK := Lib.hid hfk
          clear hfk
          obtain rfl : j = N k := by omega
          go_wp2_with fail
          go_roundw
          case rel =>
            refine ⟨k + 1, by omega, by go_num, f2, hr2, fun i hi => ?_, hf2⟩
            by_cases e : i = k
            · subst e; exact HFK.out
            · exact HB2.out i (by omega)
          case measure => simp [intOf]; omega
    · obtain rfl : m = k := by omega
      have hr2 : RowsAt wr m A N cp (fun j => mks j (N j)) := hr1.congr HB1.out
      have hsz1 := hf1.size
      clear hr1 HB1
      go_wp2_with (at_make; refine wl_make rfl _ _ _ rfl 24 (.slice none 0 0) Tryz.underlying71 info_bytes rfl .i64 .i64 _ _ m rfl rfl rfl rfl (by omega) (by unfold maxLen; omega) ?_; intro w2 ho2 q2)
      have hf2 := hf1.tr (Nw.on q2)
      have hr3 := hr2.nw q2
      have hApG : ApG w m A N cp wr.heap.size (con1 N) 0 w2 := ⟨_, fun _ => none, fun _ => 0, ho2, fun _ h => by omega, fun _ h => by omega, fun _ h => by omega, hr3, hf2⟩
      obtain ⟨gg, hgg⟩ : ∃ gg, wr.heap.size = gg := ⟨_, rfl⟩
      rw [hgg] at hApG hsz1 ⊢
      clear hgg hr2 hf2 hr3 ho2 q2 hf1
      go_loopw [6] (fun i wx => ApGo w m A N cp gg (con1 N) i wx) (fun i _ => m - (intOf i).toNat)
      case atStart => exact ⟨0, Nat.zero_le _, rfl, hApG⟩
      case round =>
        clear hApG
        obtain ⟨k, hk, rfl, hG⟩ := hrel
        obtain ⟨wo, rfl⟩ : ∃ wo : World, wo = wr := ⟨_, rfl⟩
        have hrow := hG.rows
        have hfo := hG.fr
        by_cases hlt : k < m
        · obtain ⟨b, o, rfl, hF, hc⟩ := (hs.fr hfo h0).hdr hlt
          have hNk := hN k hlt
          have hAk : ∀ b, inA (A k) b → b < wo.heap.size := fun b hb => (hrow k hlt).lt b hb
          have hFk : ¬ inA (A k) b := fun h => h0 b hF ⟨k, hlt, h⟩
          have hbl := World.block_lt_of_cell? _ _ hc
          go_wp2_with fail
          go_loopw [7, 8] (fun v i wx => ApXi A N cp k wo v i wx) (fun _ i _ => 64 - (intOf i).toNat)
          case atStart => exact ⟨0, A k, cp k, by omega, rfl, rfl, Fr.refl _ _, by simpa using hrow k hlt, .inl ⟨rfl, rfl⟩, hrow k hlt⟩
          case round =>
            obtain ⟨j, X, c', hj, rfl, rfl, hX⟩ := hrel
            have hcx := (hX.1.cell (p := ⟨b, o + k, none⟩) hbl hFk).trans hc
            by_cases hltj : j < 64
            · have hmk := fun w => markByte_any w (k : Int) ((N k : Int) + (j : Int)) (by omega) (by omega) (by omega) (by omega)
              have e1 : ((N k : Int) + (j : Int)).toNat = N k + j := by omega
              rw [Int.toNat_natCast, e1] at hmk
              have hnx := fun (w1 w' : World) (A' : Option Addr) (cap' : Nat) (q1 : Nw wr w1) (h : AppTo w1 5 1 X (N k + j) c' 1 ((mks k (N k + j)).map B8) ([mkB k (N k + j)].map B8) A' cap' w') =>
                ApX.next hX q1 (by omega) (mks_len _ _) (by omega) (mks_take _ _ _ (by omega)) hAk h
              rw [← mks_succ] at hnx
              have hXo := hX.2.1
              generalize mkB k (N k + j) = z at hmk hnx
              have HMK := Lib.hid hmk
              have HNX := Lib.hid hnx
              clear hmk hnx e1 hc
              go_wp2_with (first | (go_at_call 73; refine (HMK.out _).mono ?_; rintro e w3 ⟨rfl, rfl⟩) | (at_builtin; refine wl_append2 rfl _ _ _ rfl 1 (.int .u8 0) Tryz.underlying22 info_u8 rfl (by decide) rfl (hXo.alloc _) rfl (sl_new _ _ [B8 z] _ rfl) rfl (B8_oneCell [z]) (by omega) (by unfold maxLen; omega) ?_; intro A' cap' w4 hap))
              go_roundw
              case rel => exact ⟨j + 1, A', cap', by omega, by go_num, rfl, HNX.out _ _ _ _ ((Fr.refl _ wr).alloc _) hap⟩
              case measure => simp [intOf]; omega
            · obtain rfl : j = 64 := by omega
              obtain ⟨cells, hgo⟩ := hG.own
              have hgo2 := hgo.fr hX.1 (fun j hj h => by rw [(inA_some _ _).1 hj] at h; exact hgo.off (hrow k hlt) (by decide) _ h ((inA_some _ _).2 rfl))
              obtain ⟨u, hcu⟩ : ∃ u, wr.cell? ⟨gg, k, none⟩ = some u := by
                have hl := hgo2.1
                exact ⟨_, (hgo2.cellAt (k := k) (by omega)).trans (List.getElem?_eq_getElem (by omega))⟩
              have hfz := hgo2.frozenAt k
              have hnx := fun (w' : World) (h : w' = _) => ApG.next (w' := w') hG hsz1 hr hfar hlt hX h
              have HNX := Lib.hid hnx
              have hi0 : (k : Int) < (m : Int) := by omega
              clear hnx hgo hgo2 hc hcx
              go_wp2_with fail
              go_roundw
              case rel => exact ⟨k + 1, by omega, by go_num, HNX.out _ rfl⟩
              case measure => simp [intOf]; omega
        · obtain rfl : m = k := by omega
          go_wp2_with fail
          go_loopw [9] (fun i wx => KnownNw wo m i wx) (fun i _ => m - (intOf i).toNat)
          case atStart => exact ⟨0, Nat.zero_le _, rfl, Fr.refl _ _⟩
          case round =>
            obtain ⟨k, hk, rfl, hq⟩ := hrel
            obtain ⟨wp, rfl⟩ : ∃ wp : World, wp = wr := ⟨_, rfl⟩
            by_cases hlt : k < m
            · obtain ⟨X, c', hgc, hgx⟩ := hG.cells hlt
              have hNk := hN k hlt
              have hgc2 := (hq.cell (p := ⟨gg, k, none⟩) (World.block_lt_of_cell? _ _ hgc) (fun h => h)).trans hgc
              have HGX := Lib.hid hgx
              clear hgc hgx
              have hi0 : (k : Int) < (m : Int) := by omega
              go_wp2_with fail
              go_loopw [10] (fun i wx => KnownNw wp (N k + 64) i wx) (fun i _ => N k + 64 - (intOf i).toNat)
              case atStart => exact ⟨0, Nat.zero_le _, rfl, Fr.refl _ _⟩
              case round =>
                obtain ⟨j, hj, rfl, hq2⟩ := hrel
                have hgc3 := (hq2.cell (p := ⟨gg, k, none⟩) (World.block_lt_of_cell? _ _ hgc2) (fun h => h)).trans hgc2
                by_cases hltj : j < N k + 64
                · obtain ⟨g, rfl, hcx⟩ := HGX.out j _ (con1_at N k j hltj)
                  have hcx2 := ((hq.tr hq2).cell (p := ⟨g, j, none⟩) (World.block_lt_of_cell? _ _ hcx) (fun h => h)).trans hcx
                  obtain ⟨b, o, rfl, hF, hc⟩ := ((hs.fr hfo h0).fr (hq.tr hq2) (fun _ _ h => h)).hdr hlt
                  have hmk := fun w => markByte_any w (k : Int) (j : Int) (by omega) (by omega) (by omega) (by omega)
                  rw [Int.toNat_natCast, Int.toNat_natCast] at hmk
                  have hlk := fun (h : j < N k) => (hrow.nw (hq.tr hq2)).cells hlt h
                  generalize mkB k j = z at hmk hcx2 hlk
                  have HMK := Lib.hid hmk
                  have HLK := Lib.hid hlk
                  clear hmk hcx hlk
                  have hi1 : (j : Int) < (N k : Int) + 64 := by omega
                  have d1 := fun (n : Later wr) => n.cell hgc3
                  have d2 := fun (n : Later wr) => n.cell hcx2
                  have d3 := fun (n : Later wr) => n.cell hc
                  by_cases hjk : j < N k
                  · obtain ⟨g2, hA2, hcl⟩ := HLK.out hjk
                    rw [hA2] at d3
                    have d4 := fun (n : Later wr) => n.cell hcl
                    have hi2 : (j : Int) < (N k : Int) := by omega
                    clear hcl hcx2 hc
                    go_wp2_with fail
                    refine wp_region_later (by kernel_rfl) (by kernel_rfl) ?_
                    repeat (go_big_quiet_step ((go_at_call 73; exact Later.same (HMK.out _))))
                    refine wpQuiet_later fun w5 q5 => ?_
                    clear d1 d2 d3 d4
                    go_wp2_with fail
                    go_roundw
                    case rel => exact ⟨j + 1, by omega, by go_num, hq2.tr q5⟩
                    case measure => simp [intOf]; omega
                  · have hi2 : decide ((j : Int) < (N k : Int)) = false := decide_eq_false (by omega)
                    have hi3 : decide (j < N k) = false := decide_eq_false (by omega)
                    clear hcx2 hc
                    go_wp2_with fail
                    refine wp_region_later (by kernel_rfl) (by kernel_rfl) ?_
                    repeat (go_big_quiet_step ((go_at_call 73; exact Later.same (HMK.out _))))
                    refine wpQuiet_later fun w5 q5 => ?_
                    clear d1 d2 d3
                    go_wp2_with fail
                    go_roundw
                    case rel => exact ⟨j + 1, by omega, by go_num, hq2.tr q5⟩
                    case measure => simp [intOf]; omega
                · obtain rfl : j = N k + 64 := by omega
                  go_wp2_with fail
                  go_roundw
                  case rel => exact ⟨k + 1, by omega, by go_num, hq.tr hq2⟩
                  case measure => simp [intOf]; omega
            · obtain rfl : m = k := by omega
              obtain ⟨cells, hgo⟩ := hG.own
              have hgo2 := hgo.fr hq (fun _ _ h => h)
              have hrow2 := hrow.nw hq
              have hfo2 := hfo.tr (Nw.on hq)
              have hA2 : ApG w m A N cp gg (con2 m N) 0 wp := ⟨cells, fun _ => none, fun _ => 0, hgo2, fun _ h => by omega, fun _ h => by omega, fun _ h => by omega, hrow2, hfo2⟩
              clear hG hrow hfo hgo hgo2 hrow2 hfo2 hq
              go_wp2_with fail
              go_loopw [11] (fun i wx => ApGo w m A N cp gg (con2 m N) i wx) (fun i _ => m - (intOf i).toNat)
              case atStart => exact ⟨0, Nat.zero_le _, rfl, hA2⟩
              case round =>
                clear hA2
                obtain ⟨k, hk, rfl, hG⟩ := hrel
                obtain ⟨wo, rfl⟩ : ∃ wo : World, wo = wr := ⟨_, rfl⟩
                have hrow := hG.rows
                have hfo := hG.fr
                by_cases hlt : k < m
                · obtain ⟨b, o, rfl, hF, hc⟩ := (hs.fr hfo h0).hdr hlt
                  have hNk := hN k hlt
                  have hAk : ∀ b, inA (A k) b → b < wo.heap.size := fun b hb => (hrow k hlt).lt b hb
                  have hbl := World.block_lt_of_cell? _ _ hc
                  go_wp2_with (at_make; refine wl_make rfl _ _ _ rfl 1 (.int .u8 0) Tryz.underlying22 info_u8 rfl .i64 .i64 _ _ 64 rfl rfl rfl rfl (by omega) (by unfold maxLen; omega) ?_; intro wy hoy qy)
                  obtain ⟨gm, hgm⟩ : ∃ gm, wo.heap.size = gm := ⟨_, rfl⟩
                  have hgm2 : wo.heap.size ≤ gm := Nat.le_of_eq hgm
                  rw [hgm] at hoy ⊢
                  clear hgm
                  have hoy2 : Own wy 5 1 (some ⟨gm, 0, none⟩) 64 64 ((List.replicate 64 (0 : UInt8)).map B8) := by
                    rw [List.map_replicate]
                    exact hoy
                  clear hoy
                  have HOY := Lib.hid hoy2
                  clear hoy2
                  go_wp2_with fail
                  go_loopw [13] (fun i wx => ManyR (k + m) gm wy i wx) (fun i _ => 64 - (intOf i).toNat)
                  case atStart => exact ⟨0, _, by omega, rfl, HOY.out, rfl, Fr.refl _ _⟩
                  case round =>
                    obtain ⟨j, cs, hj, rfl, hom, ht, hfm⟩ := hrel
                    have HT := Lib.hid ht
                    clear ht HOY
                    have hcl : cs.length = 64 := by have := hom.1; simpa using this
                    have HCL := Lib.hid hcl
                    clear hcl
                    by_cases hltj : j < 64
                    · have hmk := fun w => markByte_any w ((k : Int) + (m : Int)) (j : Int) (by omega) (by omega) (by omega) (by omega)
                      have e1 : ((k : Int) + (m : Int)).toNat = k + m := by omega
                      rw [Int.toNat_natCast, e1] at hmk
                      have hnx := fun (w' : World) (h : w' = _) => ManyR.next (w' := w') hom HT.out hfm hltj h
                      generalize mkB (k + m) j = z at hmk hnx
                      have HMK := Lib.hid hmk
                      have HNX := Lib.hid hnx
                      obtain ⟨u, hcu⟩ : ∃ u, wr.cell? ⟨gm, j, none⟩ = some u := by
                        have hl := hom.1
                        exact ⟨_, (hom.cellAt (k := j) (by omega)).trans (List.getElem?_eq_getElem (by omega))⟩
                      have hfz := hom.frozenAt j
                      clear hmk hnx e1
                      have hi0 : (j : Int) < 64 := by omega
                      go_wp2_with (go_at_call 73; refine (HMK.out _).mono ?_; rintro e w3 ⟨rfl, rfl⟩)
                      refine ⟨HNX.out _ rfl, ?_⟩
                      simp [intOf]
                      omega
                    · obtain rfl : j = 64 := by omega
                      have hcs : cs = mks (k + m) 64 := by
                        have := HT.out
                        rwa [List.take_of_length_le (by rw [HCL.out]; omega)] at this
                      subst hcs
                      clear HT HCL
                      have hx0 : ApX A N cp k wo (mks k (N k)) (A k) (N k) (cp k) wr := by
                        have hf9 : Fr (inA (A k)) wo wr := (Nw.on qy).trans hfm (fun j hj => .inr (by rw [hj]; exact hgm2))
                        have ho9 := ((hrow k hlt).fr qy (fun _ _ h => h)).fr hfm (fun j hj e => by have := hAk j hj; omega)
                        exact ⟨hf9, ho9, .inl ⟨rfl, rfl⟩, ho9⟩
                      have hFk : ¬ inA (A k) b := fun h => h0 b hF ⟨k, hlt, h⟩
                      have hcx := (hx0.1.cell (p := ⟨b, o + k, none⟩) hbl hFk).trans hc
                      have hnx := fun (w' : World) (A' : Option Addr) (cap' : Nat) (h : AppTo wr 5 1 (A k) (N k) (cp k) 64 ((mks k (N k)).map B8) ((mks (k + m) 64).map B8) A' cap' w') =>
                        ApX.next hx0 (Fr.refl _ _) (by omega) (mks_len _ _) (Nat.le_refl _) (mks_take _ _ _ (Nat.le_refl _)) hAk h
                      have HNX := Lib.hid hnx
                      clear hnx
                      have hXo := hx0.2.1
                      have hml : ((mks (k + m) 64).map B8).length = 64 * 1 := by rw [List.length_map, mks_len]
                      have HML := Lib.hid hml
                      clear hml hc
                      obtain ⟨cells2, hgo⟩ := hG.own
                      have hng : ∀ j, inA (some ⟨gg, 0, none⟩) j → ¬ inA (A k) j := fun j hj h => by rw [(inA_some _ _).1 hj] at h; exact hgo.off (hrow k hlt) (by decide) _ h ((inA_some _ _).2 rfl)
                      have HNG := Lib.hid hng
                      clear hng
                      have hi0 : (k : Int) < (m : Int) := by omega
                      go_wp2_with (at_builtin; refine wl_append2 rfl _ _ _ rfl 1 (.int .u8 0) Tryz.underlying22 info_u8 rfl (by decide) rfl hXo rfl hom.sl HML.out (B8_oneCell _) (by omega) (by unfold maxLen; omega) ?_; intro A' cap' w4 hap; have hx4 := HNX.out w4 A' cap' hap; have hgo4 := hgo.fr hx4.1 HNG.out; obtain ⟨u, hcu⟩ := hgo4.cellEx hlt; have hfz := hgo4.frozenAt k)
                      go_roundw
                      case rel => exact ⟨k + 1, by omega, by go_num, ApG.next hG hsz1 hr hfar hlt hx4 rfl⟩
                      case measure => simp [intOf]; omega
                · obtain rfl : m = k := by omega
                  go_wp2_with fail
                  go_loopw [14] (fun i wx => KnownNw wo m i wx) (fun i _ => m - (intOf i).toNat)
                  case atStart => exact ⟨0, Nat.zero_le _, rfl, Fr.refl _ _⟩
                  case round =>
                    obtain ⟨k, hk, rfl, hq⟩ := hrel
                    obtain ⟨wp, rfl⟩ : ∃ wp : World, wp = wr := ⟨_, rfl⟩
                    by_cases hlt : k < m
                    · obtain ⟨X, c', hgc, hgx⟩ := hG.cells hlt
                      have hNk := hN k hlt
                      have HGX := Lib.hid hgx
                      clear hgx
                      have hi0 : (k : Int) < (m : Int) := by omega
                      have hs5 := hs.fr hfo h0
                      obtain ⟨b, o, rfl, hF, hc⟩ := hs5.hdr hlt
                      have hcp := (hq.cell (p := ⟨b, o + k, none⟩) (World.block_lt_of_cell? _ _ hc) (fun h => h)).trans hc
                      go_wp2_with fail
                      go_loopw [15] (fun i wx => KnownNw wp (N k) i wx) (fun i _ => N k - (intOf i).toNat)
                      case atStart => exact ⟨0, Nat.zero_le _, rfl, Fr.refl _ _⟩
                      case round =>
                        obtain ⟨j, hj, rfl, hq2⟩ := hrel
                        have hcr := (hq2.cell (p := ⟨b, o + k, none⟩) (World.block_lt_of_cell? _ _ hcp) (fun h => h)).trans hcp
                        by_cases hltj : j < N k
                        · obtain ⟨g, rfl, hcx⟩ := HGX.out j _ (con2_at m N k j hltj)
                          have hcx2 := ((hq.tr hq2).cell (p := ⟨g, j, none⟩) (World.block_lt_of_cell? _ _ hcx) (fun h => h)).trans hcx
                          have hgc2 := ((hq.tr hq2).cell (p := ⟨gg, k, none⟩) (World.block_lt_of_cell? _ _ hgc) (fun h => h)).trans hgc
                          have hmk := fun w => markByte_any w (k : Int) (j : Int) (by omega) (by omega) (by omega) (by omega)
                          rw [Int.toNat_natCast, Int.toNat_natCast] at hmk
                          obtain ⟨g2, hA2, hcl⟩ := (hrow.nw (hq.tr hq2)).cells hlt hltj
                          generalize mkB k j = z at hmk hcx2 hcl
                          have HMK := Lib.hid hmk
                          clear hmk hcx hgc
                          rw [hA2] at hcr
                          have hi1 : (j : Int) < (N k : Int) + 64 := by omega
                          have hi2 : (j : Int) < (N k : Int) := by omega
                          have d1 := fun (n : Later wr) => n.cell hgc2
                          have d2 := fun (n : Later wr) => n.cell hcx2
                          have d3 := fun (n : Later wr) => n.cell hcr
                          have d4 := fun (n : Later wr) => n.cell hcl
                          clear hcx2 hcl hc hcp
                          go_wp2_with fail
                          refine wp_region_later (by kernel_rfl) (by kernel_rfl) ?_
                          repeat (go_big_quiet_step ((go_at_call 73; exact Later.same (HMK.out _))))
                          refine wpQuiet_later fun w5 q5 => ?_
                          clear d1 d2 d3 d4
                          go_wp2_with fail
                          go_roundw
                          case rel => exact ⟨j + 1, by omega, by go_num, hq2.tr q5⟩
                          case measure => simp [intOf]; omega
                        · obtain rfl : j = N k := by omega
                          go_wp2_with fail
                          go_roundw
                          case rel => exact ⟨k + 1, by omega, by go_num, hq.tr hq2⟩
                          case measure => simp [intOf]; omega
                    · go_wp2_with fail
                      go_ret
                      exact ⟨rfl, hfo.tr (Nw.on hq)⟩
end Go.Proofs.YtkjnlhidnkbelaaGreatDoor

namespace Go.Proofs.YtkjnlhidnkbelaaGreatDoor
open Go Go.RowKit

theorem mkNilLimbs (w : World) : (Instr.makeSlice 130 (.int .i64 0) (.int .i64 0)).run Tryz.prog w = .ok (.slice (some ⟨w.heap.size, 0, none⟩) 0 0) (w.alloc (.cells #[] (Tryz.prog.elem 130))) := by kernel_rfl
set_option maxRecDepth 100000 in
theorem flatNilLimbs (w : World) : Calls Tryz.prog 114 #[.slice none 0 0] w fun e w' => e = .returned (.bool true) ∧ Nw w w' := by
  have hmk := fun w => mkNilLimbs w
  go_enter Tryz.func114, Tryz.ntmps114
  go_wp2_with fail
  refine wp_loop_rounds 1 ?_
  rw [rounds_succ]
  go_wp2_with fail
  refine wp_loop_rounds 1 ?_
  rw [rounds_succ]
  go_wp2_with fail
  refine wp_loop_rounds 1 ?_
  rw [rounds_succ]
  go_wp2_with fail
  refine wp_loop_rounds 1 ?_
  rw [rounds_succ]
  go_wp2_with fail
  refine wp_loop_rounds 1 ?_
  rw [rounds_succ]
  go_wp2_with fail
  go_ret
  exact ⟨rfl, (Fr.refl _ w).alloc _⟩

theorem mkNilWords (w : World) : (Instr.makeSlice 131 (.int .i64 0) (.int .i64 0)).run Tryz.prog w = .ok (.slice (some ⟨w.heap.size, 0, none⟩) 0 0) (w.alloc (.cells #[] (Tryz.prog.elem 131))) := by kernel_rfl
set_option maxRecDepth 100000 in
theorem flatNilWords (w : World) : Calls Tryz.prog 115 #[.slice none 0 0] w fun e w' => e = .returned (.bool true) ∧ Nw w w' := by
  have hmk := fun w => mkNilWords w
  go_enter Tryz.func115, Tryz.ntmps115
  go_wp2_with fail
  refine wp_loop_rounds 1 ?_
  rw [rounds_succ]
  go_wp2_with fail
  refine wp_loop_rounds 1 ?_
  rw [rounds_succ]
  go_wp2_with fail
  refine wp_loop_rounds 1 ?_
  rw [rounds_succ]
  go_wp2_with fail
  refine wp_loop_rounds 1 ?_
  rw [rounds_succ]
  go_wp2_with fail
  refine wp_loop_rounds 1 ?_
  rw [rounds_succ]
  go_wp2_with fail
  go_ret
  exact ⟨rfl, (Fr.refl _ w).alloc _⟩

theorem mkNilInts (w : World) : (Instr.makeSlice 132 (.int .i64 0) (.int .i64 0)).run Tryz.prog w = .ok (.slice (some ⟨w.heap.size, 0, none⟩) 0 0) (w.alloc (.cells #[] (Tryz.prog.elem 132))) := by kernel_rfl
set_option maxRecDepth 100000 in
theorem flatNilInts (w : World) : Calls Tryz.prog 116 #[.slice none 0 0] w fun e w' => e = .returned (.bool true) ∧ Nw w w' := by
  have hmk := fun w => mkNilInts w
  go_enter Tryz.func116, Tryz.ntmps116
  go_wp2_with fail
  refine wp_loop_rounds 1 ?_
  rw [rounds_succ]
  go_wp2_with fail
  refine wp_loop_rounds 1 ?_
  rw [rounds_succ]
  go_wp2_with fail
  refine wp_loop_rounds 1 ?_
  rw [rounds_succ]
  go_wp2_with fail
  refine wp_loop_rounds 1 ?_
  rw [rounds_succ]
  go_wp2_with fail
  refine wp_loop_rounds 1 ?_
  rw [rounds_succ]
  go_wp2_with fail
  go_ret
  exact ⟨rfl, (Fr.refl _ w).alloc _⟩

theorem mkNilLongs (w : World) : (Instr.makeSlice 133 (.int .i64 0) (.int .i64 0)).run Tryz.prog w = .ok (.slice (some ⟨w.heap.size, 0, none⟩) 0 0) (w.alloc (.cells #[] (Tryz.prog.elem 133))) := by kernel_rfl
set_option maxRecDepth 100000 in
theorem flatNilLongs (w : World) : Calls Tryz.prog 117 #[.slice none 0 0] w fun e w' => e = .returned (.bool true) ∧ Nw w w' := by
  have hmk := fun w => mkNilLongs w
  go_enter Tryz.func117, Tryz.ntmps117
  go_wp2_with fail
  refine wp_loop_rounds 1 ?_
  rw [rounds_succ]
  go_wp2_with fail
  refine wp_loop_rounds 1 ?_
  rw [rounds_succ]
  go_wp2_with fail
  refine wp_loop_rounds 1 ?_
  rw [rounds_succ]
  go_wp2_with fail
  refine wp_loop_rounds 1 ?_
  rw [rounds_succ]
  go_wp2_with fail
  refine wp_loop_rounds 1 ?_
  rw [rounds_succ]
  go_wp2_with fail
  go_ret
  exact ⟨rfl, (Fr.refl _ w).alloc _⟩

theorem mkNilTexts (w : World) : (Instr.makeSlice 134 (.int .i64 0) (.int .i64 0)).run Tryz.prog w = .ok (.slice (some ⟨w.heap.size, 0, none⟩) 0 0) (w.alloc (.cells #[] (Tryz.prog.elem 134))) := by kernel_rfl
set_option maxRecDepth 100000 in
theorem flatNilTexts (w : World) : Calls Tryz.prog 118 #[.slice none 0 0] w fun e w' => e = .returned (.bool true) ∧ Nw w w' := by
  have hmk := fun w => mkNilTexts w
  go_enter Tryz.func118, Tryz.ntmps118
  go_wp2_with fail
  refine wp_loop_rounds 1 ?_
  rw [rounds_succ]
  go_wp2_with fail
  refine wp_loop_rounds 1 ?_
  rw [rounds_succ]
  go_wp2_with fail
  refine wp_loop_rounds 1 ?_
  rw [rounds_succ]
  go_wp2_with fail
  refine wp_loop_rounds 1 ?_
  rw [rounds_succ]
  go_wp2_with fail
  refine wp_loop_rounds 1 ?_
  rw [rounds_succ]
  go_wp2_with fail
  go_ret
  exact ⟨rfl, (Fr.refl _ w).alloc _⟩

theorem mkNilTruths (w : World) : (Instr.makeSlice 135 (.int .i64 0) (.int .i64 0)).run Tryz.prog w = .ok (.slice (some ⟨w.heap.size, 0, none⟩) 0 0) (w.alloc (.cells #[] (Tryz.prog.elem 135))) := by kernel_rfl
set_option maxRecDepth 100000 in
theorem flatNilTruths (w : World) : Calls Tryz.prog 120 #[.slice none 0 0] w fun e w' => e = .returned (.bool true) ∧ Nw w w' := by
  have hmk := fun w => mkNilTruths w
  go_enter Tryz.func120, Tryz.ntmps120
  go_wp2_with fail
  refine wp_loop_rounds 1 ?_
  rw [rounds_succ]
  go_wp2_with fail
  refine wp_loop_rounds 1 ?_
  rw [rounds_succ]
  go_wp2_with fail
  refine wp_loop_rounds 1 ?_
  rw [rounds_succ]
  go_wp2_with fail
  refine wp_loop_rounds 1 ?_
  rw [rounds_succ]
  go_wp2_with fail
  refine wp_loop_rounds 1 ?_
  rw [rounds_succ]
  go_wp2_with fail
  go_ret
  exact ⟨rfl, (Fr.refl _ w).alloc _⟩

theorem mkNilSpans (w : World) : (Instr.makeSlice 136 (.int .i64 0) (.int .i64 0)).run Tryz.prog w = .ok (.slice (some ⟨w.heap.size, 0, none⟩) 0 0) (w.alloc (.cells #[] (Tryz.prog.elem 136))) := by kernel_rfl
set_option maxRecDepth 100000 in
theorem flatNilSpans (w : World) : Calls Tryz.prog 121 #[.slice none 0 0] w fun e w' => e = .returned (.bool true) ∧ Nw w w' := by
  have hmk := fun w => mkNilSpans w
  go_enter Tryz.func121, Tryz.ntmps121
  go_wp2_with fail
  refine wp_loop_rounds 1 ?_
  rw [rounds_succ]
  go_wp2_with fail
  refine wp_loop_rounds 1 ?_
  rw [rounds_succ]
  go_wp2_with fail
  refine wp_loop_rounds 1 ?_
  rw [rounds_succ]
  go_wp2_with fail
  refine wp_loop_rounds 1 ?_
  rw [rounds_succ]
  go_wp2_with fail
  refine wp_loop_rounds 1 ?_
  rw [rounds_succ]
  go_wp2_with fail
  go_ret
  exact ⟨rfl, (Fr.refl _ w).alloc _⟩

theorem mkNilShareRows (w : World) : (Instr.makeSlice 137 (.int .i64 0) (.int .i64 0)).run Tryz.prog w = .ok (.slice (some ⟨w.heap.size, 0, none⟩) 0 0) (w.alloc (.cells #[] (Tryz.prog.elem 137))) := by kernel_rfl
set_option maxRecDepth 100000 in
theorem flatNilShareRows (w : World) : Calls Tryz.prog 122 #[.slice none 0 0] w fun e w' => e = .returned (.bool true) ∧ Nw w w' := by
  have hmk := fun w => mkNilShareRows w
  go_enter Tryz.func122, Tryz.ntmps122
  go_wp2_with fail
  refine wp_loop_rounds 1 ?_
  rw [rounds_succ]
  go_wp2_with fail
  refine wp_loop_rounds 1 ?_
  rw [rounds_succ]
  go_wp2_with fail
  refine wp_loop_rounds 1 ?_
  rw [rounds_succ]
  go_wp2_with fail
  refine wp_loop_rounds 1 ?_
  rw [rounds_succ]
  go_wp2_with fail
  refine wp_loop_rounds 1 ?_
  rw [rounds_succ]
  go_wp2_with fail
  go_ret
  exact ⟨rfl, (Fr.refl _ w).alloc _⟩

theorem mkNilSharesRows (w : World) : (Instr.makeSlice 138 (.int .i64 0) (.int .i64 0)).run Tryz.prog w = .ok (.slice (some ⟨w.heap.size, 0, none⟩) 0 0) (w.alloc (.cells #[] (Tryz.prog.elem 138))) := by kernel_rfl
set_option maxRecDepth 100000 in
theorem flatNilSharesRows (w : World) : Calls Tryz.prog 123 #[.slice none 0 0] w fun e w' => e = .returned (.bool true) ∧ Nw w w' := by
  have hmk := fun w => mkNilSharesRows w
  go_enter Tryz.func123, Tryz.ntmps123
  go_wp2_with fail
  refine wp_loop_rounds 1 ?_
  rw [rounds_succ]
  go_wp2_with fail
  refine wp_loop_rounds 1 ?_
  rw [rounds_succ]
  go_wp2_with fail
  refine wp_loop_rounds 1 ?_
  rw [rounds_succ]
  go_wp2_with fail
  refine wp_loop_rounds 1 ?_
  rw [rounds_succ]
  go_wp2_with fail
  refine wp_loop_rounds 1 ?_
  rw [rounds_succ]
  go_wp2_with fail
  go_ret
  exact ⟨rfl, (Fr.refl _ w).alloc _⟩

theorem mkNilNames (w : World) : (Instr.makeSlice 139 (.int .i64 0) (.int .i64 0)).run Tryz.prog w = .ok (.slice (some ⟨w.heap.size, 0, none⟩) 0 0) (w.alloc (.cells #[] (Tryz.prog.elem 139))) := by kernel_rfl
set_option maxRecDepth 100000 in
theorem flatNilNames (w : World) : Calls Tryz.prog 124 #[.slice none 0 0] w fun e w' => e = .returned (.bool true) ∧ Nw w w' := by
  have hmk := fun w => mkNilNames w
  go_enter Tryz.func124, Tryz.ntmps124
  go_wp2_with fail
  refine wp_loop_rounds 1 ?_
  rw [rounds_succ]
  go_wp2_with fail
  refine wp_loop_rounds 1 ?_
  rw [rounds_succ]
  go_wp2_with fail
  refine wp_loop_rounds 1 ?_
  rw [rounds_succ]
  go_wp2_with fail
  refine wp_loop_rounds 1 ?_
  rw [rounds_succ]
  go_wp2_with fail
  refine wp_loop_rounds 1 ?_
  rw [rounds_succ]
  go_wp2_with fail
  go_ret
  exact ⟨rfl, (Fr.refl _ w).alloc _⟩

theorem mkNilActs (w : World) : (Instr.makeSlice 140 (.int .i64 0) (.int .i64 0)).run Tryz.prog w = .ok (.slice (some ⟨w.heap.size, 0, none⟩) 0 0) (w.alloc (.cells #[] (Tryz.prog.elem 140))) := by kernel_rfl
set_option maxRecDepth 100000 in
theorem flatNilActs (w : World) : Calls Tryz.prog 125 #[.slice none 0 0] w fun e w' => e = .returned (.bool true) ∧ Nw w w' := by
  have hmk := fun w => mkNilActs w
  go_enter Tryz.func125, Tryz.ntmps125
  go_wp2_with fail
  refine wp_loop_rounds 1 ?_
  rw [rounds_succ]
  go_wp2_with fail
  refine wp_loop_rounds 1 ?_
  rw [rounds_succ]
  go_wp2_with fail
  refine wp_loop_rounds 1 ?_
  rw [rounds_succ]
  go_wp2_with fail
  refine wp_loop_rounds 1 ?_
  rw [rounds_succ]
  go_wp2_with fail
  refine wp_loop_rounds 1 ?_
  rw [rounds_succ]
  go_wp2_with fail
  go_ret
  exact ⟨rfl, (Fr.refl _ w).alloc _⟩

theorem mkNilReads (w : World) : (Instr.makeSlice 141 (.int .i64 0) (.int .i64 0)).run Tryz.prog w = .ok (.slice (some ⟨w.heap.size, 0, none⟩) 0 0) (w.alloc (.cells #[] (Tryz.prog.elem 141))) := by kernel_rfl
set_option maxRecDepth 100000 in
theorem flatNilReads (w : World) : Calls Tryz.prog 126 #[.slice none 0 0] w fun e w' => e = .returned (.bool true) ∧ Nw w w' := by
  have hmk := fun w => mkNilReads w
  go_enter Tryz.func126, Tryz.ntmps126
  go_wp2_with fail
  refine wp_loop_rounds 1 ?_
  rw [rounds_succ]
  go_wp2_with fail
  refine wp_loop_rounds 1 ?_
  rw [rounds_succ]
  go_wp2_with fail
  refine wp_loop_rounds 1 ?_
  rw [rounds_succ]
  go_wp2_with fail
  refine wp_loop_rounds 1 ?_
  rw [rounds_succ]
  go_wp2_with fail
  refine wp_loop_rounds 1 ?_
  rw [rounds_succ]
  go_wp2_with fail
  go_ret
  exact ⟨rfl, (Fr.refl _ w).alloc _⟩

theorem mkNilLines (w : World) : (Instr.makeSlice 142 (.int .i64 0) (.int .i64 0)).run Tryz.prog w = .ok (.slice (some ⟨w.heap.size, 0, none⟩) 0 0) (w.alloc (.cells #[] (Tryz.prog.elem 142))) := by kernel_rfl
set_option maxRecDepth 100000 in
theorem flatNilLines (w : World) : Calls Tryz.prog 127 #[.slice none 0 0] w fun e w' => e = .returned (.bool true) ∧ Nw w w' := by
  have hmk := fun w => mkNilLines w
  go_enter Tryz.func127, Tryz.ntmps127
  go_wp2_with fail
  refine wp_loop_rounds 1 ?_
  rw [rounds_succ]
  go_wp2_with fail
  refine wp_loop_rounds 1 ?_
  rw [rounds_succ]
  go_wp2_with fail
  refine wp_loop_rounds 1 ?_
  rw [rounds_succ]
  go_wp2_with fail
  refine wp_loop_rounds 1 ?_
  rw [rounds_succ]
  go_wp2_with fail
  refine wp_loop_rounds 1 ?_
  rw [rounds_succ]
  go_wp2_with fail
  go_ret
  exact ⟨rfl, (Fr.refl _ w).alloc _⟩

theorem mkNilHolds (w : World) : (Instr.makeSlice 143 (.int .i64 0) (.int .i64 0)).run Tryz.prog w = .ok (.slice (some ⟨w.heap.size, 0, none⟩) 0 0) (w.alloc (.cells #[] (Tryz.prog.elem 143))) := by kernel_rfl
set_option maxRecDepth 100000 in
theorem flatNilHolds (w : World) : Calls Tryz.prog 128 #[.slice none 0 0] w fun e w' => e = .returned (.bool true) ∧ Nw w w' := by
  have hmk := fun w => mkNilHolds w
  go_enter Tryz.func128, Tryz.ntmps128
  go_wp2_with fail
  refine wp_loop_rounds 1 ?_
  rw [rounds_succ]
  go_wp2_with fail
  refine wp_loop_rounds 1 ?_
  rw [rounds_succ]
  go_wp2_with fail
  refine wp_loop_rounds 1 ?_
  rw [rounds_succ]
  go_wp2_with fail
  refine wp_loop_rounds 1 ?_
  rw [rounds_succ]
  go_wp2_with fail
  refine wp_loop_rounds 1 ?_
  rw [rounds_succ]
  go_wp2_with fail
  go_ret
  exact ⟨rfl, (Fr.refl _ w).alloc _⟩

theorem mkNilConfigs (w : World) : (Instr.makeSlice 144 (.int .i64 0) (.int .i64 0)).run Tryz.prog w = .ok (.slice (some ⟨w.heap.size, 0, none⟩) 0 0) (w.alloc (.cells #[] (Tryz.prog.elem 144))) := by kernel_rfl
set_option maxRecDepth 100000 in
theorem flatNilConfigs (w : World) : Calls Tryz.prog 129 #[.slice none 0 0] w fun e w' => e = .returned (.bool true) ∧ Nw w w' := by
  have hmk := fun w => mkNilConfigs w
  go_enter Tryz.func129, Tryz.ntmps129
  go_wp2_with fail
  refine wp_loop_rounds 1 ?_
  rw [rounds_succ]
  go_wp2_with fail
  refine wp_loop_rounds 1 ?_
  rw [rounds_succ]
  go_wp2_with fail
  refine wp_loop_rounds 1 ?_
  rw [rounds_succ]
  go_wp2_with fail
  refine wp_loop_rounds 1 ?_
  rw [rounds_succ]
  go_wp2_with fail
  refine wp_loop_rounds 1 ?_
  rw [rounds_succ]
  go_wp2_with fail
  go_ret
  exact ⟨rfl, (Fr.refl _ w).alloc _⟩

theorem mkNilEntries (w : World) : (Instr.makeSlice 145 (.int .i64 0) (.int .i64 0)).run Tryz.prog w = .ok (.slice (some ⟨w.heap.size, 0, none⟩) 0 0) (w.alloc (.cells #[] (Tryz.prog.elem 145))) := by kernel_rfl
set_option maxRecDepth 100000 in
theorem flatNilEntries (w : World) : Calls Tryz.prog 130 #[.slice none 0 0] w fun e w' => e = .returned (.bool true) ∧ Nw w w' := by
  have hmk := fun w => mkNilEntries w
  go_enter Tryz.func130, Tryz.ntmps130
  go_wp2_with fail
  refine wp_loop_rounds 1 ?_
  rw [rounds_succ]
  go_wp2_with fail
  refine wp_loop_rounds 1 ?_
  rw [rounds_succ]
  go_wp2_with fail
  refine wp_loop_rounds 1 ?_
  rw [rounds_succ]
  go_wp2_with fail
  refine wp_loop_rounds 1 ?_
  rw [rounds_succ]
  go_wp2_with fail
  refine wp_loop_rounds 1 ?_
  rw [rounds_succ]
  go_wp2_with fail
  go_ret
  exact ⟨rfl, (Fr.refl _ w).alloc _⟩

theorem mkNilBases (w : World) : (Instr.makeSlice 146 (.int .i64 0) (.int .i64 0)).run Tryz.prog w = .ok (.slice (some ⟨w.heap.size, 0, none⟩) 0 0) (w.alloc (.cells #[] (Tryz.prog.elem 146))) := by kernel_rfl
set_option maxRecDepth 100000 in
theorem flatNilBases (w : World) : Calls Tryz.prog 131 #[.slice none 0 0] w fun e w' => e = .returned (.bool true) ∧ Nw w w' := by
  have hmk := fun w => mkNilBases w
  go_enter Tryz.func131, Tryz.ntmps131
  go_wp2_with fail
  refine wp_loop_rounds 1 ?_
  rw [rounds_succ]
  go_wp2_with fail
  refine wp_loop_rounds 1 ?_
  rw [rounds_succ]
  go_wp2_with fail
  refine wp_loop_rounds 1 ?_
  rw [rounds_succ]
  go_wp2_with fail
  refine wp_loop_rounds 1 ?_
  rw [rounds_succ]
  go_wp2_with fail
  refine wp_loop_rounds 1 ?_
  rw [rounds_succ]
  go_wp2_with fail
  go_ret
  exact ⟨rfl, (Fr.refl _ w).alloc _⟩

theorem mkNilImages (w : World) : (Instr.makeSlice 147 (.int .i64 0) (.int .i64 0)).run Tryz.prog w = .ok (.slice (some ⟨w.heap.size, 0, none⟩) 0 0) (w.alloc (.cells #[] (Tryz.prog.elem 147))) := by kernel_rfl
set_option maxRecDepth 100000 in
theorem flatNilImages (w : World) : Calls Tryz.prog 132 #[.slice none 0 0] w fun e w' => e = .returned (.bool true) ∧ Nw w w' := by
  have hmk := fun w => mkNilImages w
  go_enter Tryz.func132, Tryz.ntmps132
  go_wp2_with fail
  refine wp_loop_rounds 1 ?_
  rw [rounds_succ]
  go_wp2_with fail
  refine wp_loop_rounds 1 ?_
  rw [rounds_succ]
  go_wp2_with fail
  refine wp_loop_rounds 1 ?_
  rw [rounds_succ]
  go_wp2_with fail
  refine wp_loop_rounds 1 ?_
  rw [rounds_succ]
  go_wp2_with fail
  refine wp_loop_rounds 1 ?_
  rw [rounds_succ]
  go_wp2_with fail
  go_ret
  exact ⟨rfl, (Fr.refl _ w).alloc _⟩

theorem mkNilLetters (w : World) : (Instr.makeSlice 148 (.int .i64 0) (.int .i64 0)).run Tryz.prog w = .ok (.slice (some ⟨w.heap.size, 0, none⟩) 0 0) (w.alloc (.cells #[] (Tryz.prog.elem 148))) := by kernel_rfl
set_option maxRecDepth 100000 in
theorem flatNilLetters (w : World) : Calls Tryz.prog 133 #[.slice none 0 0] w fun e w' => e = .returned (.bool true) ∧ Nw w w' := by
  have hmk := fun w => mkNilLetters w
  go_enter Tryz.func133, Tryz.ntmps133
  go_wp2_with fail
  refine wp_loop_rounds 1 ?_
  rw [rounds_succ]
  go_wp2_with fail
  refine wp_loop_rounds 1 ?_
  rw [rounds_succ]
  go_wp2_with fail
  refine wp_loop_rounds 1 ?_
  rw [rounds_succ]
  go_wp2_with fail
  refine wp_loop_rounds 1 ?_
  rw [rounds_succ]
  go_wp2_with fail
  refine wp_loop_rounds 1 ?_
  rw [rounds_succ]
  go_wp2_with fail
  go_ret
  exact ⟨rfl, (Fr.refl _ w).alloc _⟩

theorem mkNilStretches (w : World) : (Instr.makeSlice 149 (.int .i64 0) (.int .i64 0)).run Tryz.prog w = .ok (.slice (some ⟨w.heap.size, 0, none⟩) 0 0) (w.alloc (.cells #[] (Tryz.prog.elem 149))) := by kernel_rfl
set_option maxRecDepth 100000 in
theorem flatNilStretches (w : World) : Calls Tryz.prog 134 #[.slice none 0 0] w fun e w' => e = .returned (.bool true) ∧ Nw w w' := by
  have hmk := fun w => mkNilStretches w
  go_enter Tryz.func134, Tryz.ntmps134
  go_wp2_with fail
  refine wp_loop_rounds 1 ?_
  rw [rounds_succ]
  go_wp2_with fail
  refine wp_loop_rounds 1 ?_
  rw [rounds_succ]
  go_wp2_with fail
  refine wp_loop_rounds 1 ?_
  rw [rounds_succ]
  go_wp2_with fail
  refine wp_loop_rounds 1 ?_
  rw [rounds_succ]
  go_wp2_with fail
  refine wp_loop_rounds 1 ?_
  rw [rounds_succ]
  go_wp2_with fail
  go_ret
  exact ⟨rfl, (Fr.refl _ w).alloc _⟩

theorem mkNilPeers (w : World) : (Instr.makeSlice 150 (.int .i64 0) (.int .i64 0)).run Tryz.prog w = .ok (.slice (some ⟨w.heap.size, 0, none⟩) 0 0) (w.alloc (.cells #[] (Tryz.prog.elem 150))) := by kernel_rfl
set_option maxRecDepth 100000 in
theorem flatNilPeers (w : World) : Calls Tryz.prog 135 #[.slice none 0 0] w fun e w' => e = .returned (.bool true) ∧ Nw w w' := by
  have hmk := fun w => mkNilPeers w
  go_enter Tryz.func135, Tryz.ntmps135
  go_wp2_with fail
  refine wp_loop_rounds 1 ?_
  rw [rounds_succ]
  go_wp2_with fail
  refine wp_loop_rounds 1 ?_
  rw [rounds_succ]
  go_wp2_with fail
  refine wp_loop_rounds 1 ?_
  rw [rounds_succ]
  go_wp2_with fail
  refine wp_loop_rounds 1 ?_
  rw [rounds_succ]
  go_wp2_with fail
  refine wp_loop_rounds 1 ?_
  rw [rounds_succ]
  go_wp2_with fail
  go_ret
  exact ⟨rfl, (Fr.refl _ w).alloc _⟩

end Go.Proofs.YtkjnlhidnkbelaaGreatDoor

namespace Go.Proofs.YtkjnlhidnkbelaaGreatDoor
open Go Go.RowKit

/-- A bag that has lists of bytes alone. -/
def bagCells (v : Value) : Array Value := #[.slice none 0 0, .slice none 0 0, .slice none 0 0, .slice none 0 0, .slice none 0 0, v, .slice none 0 0, .slice none 0 0, .slice none 0 0, .slice none 0 0, .slice none 0 0, .slice none 0 0, .slice none 0 0, .slice none 0 0, .slice none 0 0, .slice none 0 0, .slice none 0 0, .slice none 0 0, .slice none 0 0, .slice none 0 0, .slice none 0 0, .slice none 0 0]
def IsBag (w : World) (g : Nat) (v : Value) : Prop := Blk w g 152 (bagCells v)

set_option maxRecDepth 100000 in
set_option maxHeartbeats 2000000 in
theorem bagApart_bytes (w : World) (g : Nat) (F0 : Nat → Prop) (B : Option Addr) (c : Nat) (m : Nat) (A : Nat → Option Addr) (N cp : Nat → Nat) (f : Nat → List UInt8) (hbag : IsBag w g (.slice B m c)) (hs : Sl w F0 B (hdrs m A N cp)) (hr : RowsAt w m A N cp f) (hfar : FarR m A) (h0 : ∀ b, F0 b → ¬ InR m A b) (hg : ¬ InR m A g)
    (hm : m ≤ 1000000000) (hN : ∀ k, k < m → N k ≤ 1000000000000) :
    Calls Tryz.prog 85 #[.pointer (some ⟨g, 0, none⟩)] w fun e w' => e = .returned (.bool true) ∧ Fr (InR m A) w w' := by
  unfold IsBag bagCells at hbag
  have HN := Lib.hid hN
  clear hN
  have c0 := hbag.cell 0
  simp at c0
  go_enter Tryz.func85, Tryz.ntmps85
  go_wp2_with fail
  refine (flatNilLimbs _).mono ?_
  rintro e w1 ⟨rfl, q1⟩
  have r1 := q1
  have b1 := hbag.fr r1 (fun h => h)
  clear c0
  have c1 := b1.cell 1
  simp at c1
  clear b1
  go_wp2_with fail
  refine (flatNilWords _).mono ?_
  rintro e w2 ⟨rfl, q2⟩
  have r2 := r1.tr q2
  have b2 := hbag.fr r2 (fun h => h)
  clear c1
  have c2 := b2.cell 2
  simp at c2
  clear b2
  go_wp2_with fail
  refine (flatNilInts _).mono ?_
  rintro e w3 ⟨rfl, q3⟩
  have r3 := r2.tr q3
  have b3 := hbag.fr r3 (fun h => h)
  clear c2
  have c3 := b3.cell 3
  simp at c3
  clear b3
  go_wp2_with fail
  refine (flatNilLongs _).mono ?_
  rintro e w4 ⟨rfl, q4⟩
  have r4 := r3.tr q4
  have b4 := hbag.fr r4 (fun h => h)
  clear c3
  have c4 := b4.cell 4
  simp at c4
  clear b4
  go_wp2_with fail
  refine (flatNilTexts _).mono ?_
  rintro e w5 ⟨rfl, q5⟩
  have r5 := r4.tr q5
  have b5 := hbag.fr r5 (fun h => h)
  clear c4
  have c5 := b5.cell 5
  simp at c5
  clear b5
  go_wp2_with fail
  refine (flatBytes_any _ F0 B c m A N cp f (hs.fr r5 (fun _ _ h => h)) (hr.nw r5) hfar h0 hm HN.out).mono ?_
  rintro e w6 ⟨rfl, f6⟩
  have r6 := (Nw.on r5).tr f6
  have b6 := hbag.fr r6 hg
  clear c5
  have c6 := b6.cell 6
  simp at c6
  clear b6
  go_wp2_with fail
  refine (flatNilTruths _).mono ?_
  rintro e w7 ⟨rfl, q7⟩
  have r7 := r6.tr (Nw.on q7)
  have b7 := hbag.fr r7 hg
  clear c6
  have c7 := b7.cell 7
  simp at c7
  clear b7
  go_wp2_with fail
  refine (flatNilSpans _).mono ?_
  rintro e w8 ⟨rfl, q8⟩
  have r8 := r7.tr (Nw.on q8)
  have b8 := hbag.fr r8 hg
  clear c7
  have c8 := b8.cell 8
  simp at c8
  clear b8
  go_wp2_with fail
  refine (flatNilShareRows _).mono ?_
  rintro e w9 ⟨rfl, q9⟩
  have r9 := r8.tr (Nw.on q9)
  have b9 := hbag.fr r9 hg
  clear c8
  have c9 := b9.cell 9
  simp at c9
  clear b9
  go_wp2_with fail
  refine (flatNilSharesRows _).mono ?_
  rintro e w10 ⟨rfl, q10⟩
  have r10 := r9.tr (Nw.on q10)
  have b10 := hbag.fr r10 hg
  clear c9
  have c10 := b10.cell 10
  simp at c10
  clear b10
  go_wp2_with fail
  refine (flatNilNames _).mono ?_
  rintro e w11 ⟨rfl, q11⟩
  have r11 := r10.tr (Nw.on q11)
  have b11 := hbag.fr r11 hg
  clear c10
  have c11 := b11.cell 11
  simp at c11
  clear b11
  go_wp2_with fail
  refine (flatNilActs _).mono ?_
  rintro e w12 ⟨rfl, q12⟩
  have r12 := r11.tr (Nw.on q12)
  have b12 := hbag.fr r12 hg
  clear c11
  have c12 := b12.cell 12
  simp at c12
  clear b12
  go_wp2_with fail
  refine (flatNilReads _).mono ?_
  rintro e w13 ⟨rfl, q13⟩
  have r13 := r12.tr (Nw.on q13)
  have b13 := hbag.fr r13 hg
  clear c12
  have c13 := b13.cell 13
  simp at c13
  clear b13
  go_wp2_with fail
  refine (flatNilLines _).mono ?_
  rintro e w14 ⟨rfl, q14⟩
  have r14 := r13.tr (Nw.on q14)
  have b14 := hbag.fr r14 hg
  clear c13
  have c14 := b14.cell 14
  simp at c14
  clear b14
  go_wp2_with fail
  refine (flatNilHolds _).mono ?_
  rintro e w15 ⟨rfl, q15⟩
  have r15 := r14.tr (Nw.on q15)
  have b15 := hbag.fr r15 hg
  clear c14
  have c15 := b15.cell 15
  simp at c15
  clear b15
  go_wp2_with fail
  refine (flatNilConfigs _).mono ?_
  rintro e w16 ⟨rfl, q16⟩
  have r16 := r15.tr (Nw.on q16)
  have b16 := hbag.fr r16 hg
  clear c15
  have c16 := b16.cell 16
  simp at c16
  clear b16
  go_wp2_with fail
  refine (flatNilEntries _).mono ?_
  rintro e w17 ⟨rfl, q17⟩
  have r17 := r16.tr (Nw.on q17)
  have b17 := hbag.fr r17 hg
  clear c16
  have c17 := b17.cell 17
  simp at c17
  clear b17
  go_wp2_with fail
  refine (flatNilBases _).mono ?_
  rintro e w18 ⟨rfl, q18⟩
  have r18 := r17.tr (Nw.on q18)
  have b18 := hbag.fr r18 hg
  clear c17
  have c18 := b18.cell 18
  simp at c18
  clear b18
  go_wp2_with fail
  refine (flatNilImages _).mono ?_
  rintro e w19 ⟨rfl, q19⟩
  have r19 := r18.tr (Nw.on q19)
  have b19 := hbag.fr r19 hg
  clear c18
  have c19 := b19.cell 19
  simp at c19
  clear b19
  go_wp2_with fail
  refine (flatNilLetters _).mono ?_
  rintro e w20 ⟨rfl, q20⟩
  have r20 := r19.tr (Nw.on q20)
  have b20 := hbag.fr r20 hg
  clear c19
  have c20 := b20.cell 20
  simp at c20
  clear b20
  go_wp2_with fail
  refine (flatNilStretches _).mono ?_
  rintro e w21 ⟨rfl, q21⟩
  have r21 := r20.tr (Nw.on q21)
  have b21 := hbag.fr r21 hg
  clear c20
  have c21 := b21.cell 21
  simp at c21
  clear b21
  go_wp2_with fail
  refine (flatNilPeers _).mono ?_
  rintro e w22 ⟨rfl, q22⟩
  have r22 := r21.tr (Nw.on q22)
  have b22 := hbag.fr r22 hg
  clear c21
  go_wp2_with fail
  go_ret
  exact ⟨rfl, r22⟩

theorem putBytes_any (w w0 : World) (g : Nat) (B : Option Addr) (c m : Nat) (cells : List Value) (X : Option Addr) (n cx : Nat) (hbag : IsBag w g (.slice B m c)) (ho : Own w 22 1 B m c cells) (hq : Nw w0 w) (hg : w0.heap.size ≤ g) (hB : ∀ k, inA B k → w0.heap.size ≤ k) (hm : m ≤ 1000000000) :
    Calls Tryz.prog 84 #[.pointer (some ⟨g, 0, none⟩), .slice X n cx] w fun e w' => ∃ B' c', e = .returned (.tuple #[]) ∧ IsBag w' g (.slice B' (m + 1) c') ∧ Own w' 22 1 B' (m + 1) c' (cells ++ [.slice X n cx]) ∧ Nw w0 w' ∧ ∀ k, inA B' k → w0.heap.size ≤ k := by
  unfold IsBag at hbag ⊢
  have c5 := hbag.cell 5
  simp [bagCells] at c5
  have hone : ∀ u ∈ [Value.slice X n cx], u.oneCell' = true := by simp [Value.oneCell']
  have HB := Lib.hid hbag
  clear hbag
  go_enter Tryz.func84, Tryz.ntmps84
  go_wp2_with (at_builtin; refine wl_append2 rfl _ _ _ rfl 24 (.slice none 0 0) Tryz.underlying71 info_bytes rfl (by decide) rfl (ho.alloc _) rfl (sl_new w 22 [.slice X n cx] _ rfl) rfl hone (by omega) (by unfold maxLen; omega) ?_; intro B' c' w1 hap; obtain ⟨ho1, q1, n1⟩ := hap.newOwn (hq.alloc _) hB; have hb1 := (HB.out.alloc (.cells #[.slice X n cx] 22)).fr hap.fr (fun h => (ho.alloc (.cells #[.slice X n cx] 22)).ne_ (HB.out.alloc _) (by decide) h); have c51 := hb1.cell 5; have f51 := hb1.frozen 5; simp [bagCells] at c51; have HB1 := Lib.hid hb1; clear hb1)
  go_end0
  refine ⟨B', c', rfl, ?_, ?_, q1.setCell (p := ⟨g, 5, none⟩) (.inr hg) _, n1⟩
  · have := HB1.out.set_ 5 (.slice B' (m + 1) c')
    simpa [bagCells] using this
  · exact ho1.setCell (p := ⟨g, 5, none⟩) (fun h => ho1.ne_ HB1.out (by decide) h) _

theorem hdrs_succ (m : Nat) (A : Nat → Option Addr) (N cp : Nat → Nat) (k : Nat) (h : k < m) : (hdrs m A N cp).take (k + 1) = (hdrs m A N cp).take k ++ [.slice (A k) (N k) (cp k)] := by
  rw [List.take_succ_eq_append_getElem (by rw [hdrs_len]; exact h)]
  simp [hdrs]

def ApBag (w : World) (m : Nat) (A : Nat → Option Addr) (N cp : Nat → Nat) (g : Nat) (i : Value) (wr : World) : Prop :=
  ∃ (k : Nat) (B : Option Addr) (c : Nat), k ≤ m ∧ i = .int .i64 k ∧ IsBag wr g (.slice B k c) ∧ Own wr 22 1 B k c ((hdrs m A N cp).take k) ∧ Nw w wr ∧ ∀ k, inA B k → w.heap.size ≤ k

set_option maxRecDepth 100000 in
theorem apartBytes_any (w : World) (F0 : Nat → Prop) (B : Option Addr) (c : Nat) (m : Nat) (A : Nat → Option Addr) (N cp : Nat → Nat) (f : Nat → List UInt8) (hs : Sl w F0 B (hdrs m A N cp)) (hr : RowsAt w m A N cp f) (hfar : FarR m A)
    (hm : m ≤ 1000000000) (hN : ∀ k, k < m → N k ≤ 1000000000000) :
    Calls Tryz.prog 32 #[.slice B m c] w fun e w' => e = .returned (.bool true) ∧ Fr (InR m A) w w' := by
  have HN := Lib.hid hN
  clear hN
  go_enter Tryz.func32, Tryz.ntmps32
  go_wp2_with fail
  obtain ⟨g, hg⟩ : ∃ g, w.heap.size = g := ⟨_, rfl⟩
  have hb0 : IsBag (w.alloc (.cells (bagCells (.slice none 0 0)) 152)) g (.slice none 0 0) := by rw [← hg]; exact Blk.new _ _ _
  have q0 : Nw w (w.alloc (.cells (bagCells (.slice none 0 0)) 152)) := (Fr.refl _ w).alloc _
  have hg2 : w.heap.size ≤ g := Nat.le_of_eq hg
  rw [hg]
  clear hg
  go_loopw [4] (fun i wr => ApBag w m A N cp g i wr) (fun i _ => m - (intOf i).toNat)
  case atStart => exact ⟨0, none, 0, Nat.zero_le _, rfl, hb0, Own.nil _ _ _, q0, fun k hk => (inA_none k hk).elim⟩
  case round =>
    obtain ⟨k, B2, c2, hk, rfl, hb, ho, hq, hB⟩ := hrel
    by_cases hlt : k < m
    · obtain ⟨b, o, rfl, hF, hc⟩ := (hs.fr hq (fun _ _ h => h)).hdr hlt
      go_wp2_with (go_at_call 84; refine (putBytes_any _ w g B2 c2 k _ (A k) (N k) (cp k) hb ho hq hg2 hB (by omega)).mono ?_; rintro e w1 ⟨B', c', rfl, hb1, ho1, q1, n1⟩)
      go_roundw
      case rel => exact ⟨k + 1, B', c', by omega, by go_num, hb1, by rw [hdrs_succ _ _ _ _ _ hlt]; exact ho1, q1, n1⟩
      case measure => simp [intOf]; omega
    · obtain rfl : m = k := by omega
      rw [List.take_of_length_le (by rw [hdrs_len]; omega)] at ho
      have hr2 := hr.nw hq
      go_wp2_with (go_at_call 85; refine (bagApart_bytes _ g _ B2 c2 m A N cp f hb ho.sl hr2 hfar (fun b h1 h2 => by have := hB b h1; have := hr.inlt h2; omega) (fun h => by have := hr.inlt h; omega) hm HN.out).mono ?_; rintro e w1 ⟨rfl, f1⟩)
      go_ret
      exact ⟨rfl, (Nw.on hq).tr f1⟩
end Go.Proofs.YtkjnlhidnkbelaaGreatDoor

namespace Go.Proofs.YtkjnlhidnkbelaaGreatDoor
open Go Go.RowKit
set_option linter.unusedVariables false
set_option linter.unusedSimpArgs false
/-- Where a list of bytes lies, and what it holds. -/
structure Hd where
  A : Option Addr
  n : Nat
  c : Nat
  bs : List UInt8
instance : Inhabited Hd := ⟨⟨none, 0, 0, []⟩⟩
abbrev hdV (h : Hd) : Value := .slice h.A h.n h.c
theorem apart_list (w : World) (b : Nat) (l : List Hd) (hb : Blk w b 22 (l.map hdV).toArray) (ho : ∀ h ∈ l, Own w 5 1 h.A h.n h.c (h.bs.map B8))
    (hd : l.Pairwise (fun x y => ∀ k, inA x.A k → ¬ inA y.A k)) (hm : l.length ≤ 1000000000) (hN : ∀ h ∈ l, h.n ≤ 1000000000000) :
    Calls Tryz.prog 32 #[.slice (some ⟨b, 0, none⟩) l.length l.length] w fun e w' => e = .returned (.bool true) ∧ Fr (fun k => ∃ h ∈ l, inA h.A k) w w' := by
  have hg : ∀ k (h : k < l.length), (l.getD k default) = l[k] := fun k h => by simp [List.getD, List.getElem?_eq_getElem h]
  have hmem : ∀ k, k < l.length → l.getD k default ∈ l := fun k h => by rw [hg k h]; exact List.getElem_mem h
  have hs : Sl w (· = b) (some ⟨b, 0, none⟩) (hdrs l.length (fun k => (l.getD k default).A) (fun k => (l.getD k default).n) (fun k => (l.getD k default).c)) := by
    have h1 := hb.sl 0 l.length
    have e : ((l.map hdV).toArray.toList.drop 0).take l.length = hdrs l.length (fun k => (l.getD k default).A) (fun k => (l.getD k default).n) (fun k => (l.getD k default).c) := by
      rw [List.drop_zero, List.take_of_length_le (by simp)]
      refine List.ext_getElem (by simp [hdrs]) fun k h1 h2 => ?_
      have hk : k < l.length := by simpa using h1
      simp only [hdrs, hdr, List.getElem_map, List.getElem_range]
      rw [hg k hk]
    rw [e] at h1
    exact h1
  refine (apartBytes_any w _ _ l.length l.length _ _ _ (fun k => (l.getD k default).bs) hs (fun k hk => ho _ (hmem k hk)) (fun i j hi hj hne k h1 h2 => ?_) hm (fun k hk => hN _ (hmem k hk))).mono fun e w' ⟨he, hf⟩ => ⟨he, hf.mono fun k ⟨i, hi, hk⟩ => .inl ⟨_, hmem i hi, hk⟩⟩
  rw [hg i hi] at h1
  rw [hg j hj] at h2
  rcases Nat.lt_or_gt_of_ne hne with h | h
  · exact List.pairwise_iff_getElem.1 hd i j hi hj h k h1 h2
  · exact List.pairwise_iff_getElem.1 hd j i hj hi h k h2 h1
/-- What is listed is closed under what it waits for. -/
def DownL (md : Region.Mode) (ops : Array Oper) (L : Nat → Bool) : Prop := ∀ k o, ops[k]? = some o → L k = true → ∀ j, waitsFor md o j = true → L j = true
theorem DownL.step {md : Region.Mode} {ops : Array Oper} {L : Nat → Bool} (h : DownL md ops L) {k : Nat} {o : Oper} (ho : ops[k]? = some o) (hD : ∀ j, waitsFor md o j = true → L j = true) : DownL md ops (onL L k) := fun i o' hi hl j hj => by
  unfold onL at hl ⊢
  by_cases e : j = k
  · rw [if_pos e]
  rw [if_neg e]
  by_cases e2 : i = k
  · subst e2
    rw [ho] at hi
    injection hi with hi
    subst hi
    exact hD j hj
  · rw [if_neg e2] at hl
    exact h i o' hi hl j hj
/-- Each of these waits for the next one. -/
def pathOk (md : Region.Mode) (ops : Array Oper) : List Nat → Bool
  | a :: b :: l => (match ops[a]? with
    | none => false
    | some o => waitsFor md o b) && pathOk md ops (b :: l)
  | _ => true
theorem DownL.path {md : Region.Mode} {ops : Array Oper} {L : Nat → Bool} (h : DownL md ops L) : ∀ (l : List Nat) (a : Nat), pathOk md ops (a :: l) = true → L a = true → ∀ j ∈ a :: l, L j = true := by
  intro l
  induction l with
  | nil =>
    intro a _ ha j hj
    rw [List.mem_singleton] at hj
    rw [hj]
    exact ha
  | cons b l ih =>
    intro a hp ha j hj
    unfold pathOk at hp
    rw [Bool.and_eq_true] at hp
    rcases List.mem_cons.1 hj with e | e
    · rw [e]; exact ha
    · refine ih b hp.2 ?_ j e
      cases ho : ops[a]? with
      | none => rw [ho] at hp; cases hp.1
      | some o => rw [ho] at hp; exact h a o ho ha b hp.1
/-- The class: blocks of S are turned by operation kA alone. -/
def RfS (md : Region.Mode) (ops : Array Oper) (W : World) (S : Nat → Prop) (kA : Nat) (fs : List Fact) (L : Nat → Bool) (B : Bk) (w : World) : Prop :=
  Fr S W w ∧ (L kA = false → Nw W w) ∧ DownL md ops L ∧ ∀ f ∈ fs, L f.k = true → f.φ (B f.k) w
def LastsS (S : Nat → Prop) (fs : List Fact) : Prop := ∀ f ∈ fs, ∀ b w w', f.φ b w → Fr S w w' → f.φ b w'
theorem blkF_lastsS (S : Nat → Prop) (W : World) (hS : ∀ k, S k → k < W.heap.size) (k : Nat) (t : TypeId) (cs : Array Value) : ∀ b w w', (blkF W k t cs).φ b w → Fr S w w' → (blkF W k t cs).φ b w' := fun _ _ _ h q => ⟨h.1.fr q (fun h2 => by have := hS _ h2; have := h.2; omega), h.2⟩
section
variable {md : Region.Mode} {ops : Array Oper} {W w w' : World} {S : Nat → Prop} {kA : Nat} {fs : List Fact} {L : Nat → Bool} {B : Bk}
theorem RfS.start (md : Region.Mode) (ops : Array Oper) (W : World) (S : Nat → Prop) (kA : Nat) (fs : List Fact) (B : Bk) : RfS md ops W S kA fs (fun _ => false) B W.drew :=
  ⟨(Fr.refl _ W).drew, fun _ => (Fr.refl _ W).drew, fun _ _ _ h => (by cases h), fun _ _ h => (by cases h)⟩
theorem RfS.fr (h : RfS md ops W S kA fs L B w) : Fr S W w := h.1
theorem RfS.nw (h : RfS md ops W S kA fs L B w) (path : List Nat) {k : Nat} (hp : pathOk md ops (kA :: path) = true) (hk : (kA :: path).contains k = true) (hL : L k = false) : Nw W w := by
  refine h.2.1 ?_
  cases hA : L kA with
  | false => rfl
  | true =>
    have := h.2.2.1.path path kA hp hA k (by simpa using hk)
    rw [hL] at this
    cases this
theorem RfS.get (h : RfS md ops W S kA fs L B w) (i : Nat) (f : Fact) (hi : fs[i]? = some f) (hl : L f.k = true) : f.φ (B f.k) w := h.2.2.2 f (List.mem_of_getElem? hi) hl
theorem RfS.keep (h : RfS md ops W S kA fs L B w) {k : Nat} {o : Oper} (ho : ops[k]? = some o) (hD : ∀ j, waitsFor md o j = true → L j = true) (hne : (kA != k) = true) (hj : fs.all (fun f => f.k != k) = true) : RfS md ops W S kA fs (onL L k) B w :=
  ⟨h.1, fun hl => h.2.1 (by rwa [show onL L k kA = L kA from if_neg (by simpa using hne)] at hl), h.2.2.1.step ho hD, fun f hf hl => h.2.2.2 f hf (by
    have := List.all_eq_true.1 hj f hf
    rw [bne_iff_ne] at this
    rwa [show onL L k f.k = L f.k from if_neg this] at hl)⟩
theorem RfS.go (h : RfS md ops W S kA fs L B w) (hlast : LastsS S fs) (q : Nw w w') : RfS md ops W S kA fs L B w' :=
  ⟨h.1.tr (Nw.on q), fun hl => (h.2.1 hl).tr q, h.2.2.1, fun f hf hl => hlast f hf _ _ _ (h.2.2.2 f hf hl) (Nw.on q)⟩
theorem RfS.put (h : RfS md ops W S kA fs L B w) (hlast : LastsS S fs) (q : Nw w w') (k : Nat) (b : Nat × Option Addr) {o : Oper} (ho : ops[k]? = some o) (hD : ∀ j, waitsFor md o j = true → L j = true) (hne : (kA != k) = true) (hk : ∀ f ∈ fs, f.k = k → f.φ b w') : RfS md ops W S kA fs (onL L k) (updB B k b) w' :=
  ⟨h.1.tr (Nw.on q), fun hl => (h.2.1 (by rwa [show onL L k kA = L kA from if_neg (by simpa using hne)] at hl)).tr q, h.2.2.1.step ho hD, fun f hf hl => by
    by_cases e : f.k = k
    · rw [show updB B k b f.k = b from if_pos e]
      exact hk f hf e
    · rw [show onL L k f.k = L f.k from if_neg e] at hl
      rw [show updB B k b f.k = B f.k from if_neg e]
      exact hlast f hf _ _ _ (h.2.2.2 f hf hl) (Nw.on q)⟩
theorem RfS.turn (h : RfS md ops W S kA fs L B w) (hlast : LastsS S fs) (q : Fr S w w') {o : Oper} (ho : ops[kA]? = some o) (hD : ∀ j, waitsFor md o j = true → L j = true) (hj : fs.all (fun f => f.k != kA) = true) : RfS md ops W S kA fs (onL L kA) B w' :=
  ⟨h.1.tr q, fun hl => (by rw [show onL L kA kA = true from if_pos rfl] at hl; cases hl), h.2.2.1.step ho hD, fun f hf hl => by
    have := List.all_eq_true.1 hj f hf
    rw [bne_iff_ne] at this
    rw [show onL L kA f.k = L f.k from if_neg this] at hl
    exact hlast f hf _ _ _ (h.2.2.2 f hf hl) q⟩
end
/-- A drawn region, walked once, in which one call turns what was told ahead of it. -/
theorem wp_region_effS {P : Program} {id : Nat} {Q : Exit → Act → World → Prop} {a : Act} {w : World} {l : List Oper} (S : Nat → Prop) (kA : Nat) (fs : List Fact) (hm : P.follows .mixedOrders = true) (hB : effB .any l.toArray = true)
    (h : wpEff2 .any P l.toArray (RfS .any l.toArray w S kA fs) (fun B a' => ∀ w', RfS .any l.toArray w S kA fs (fun j => decide (j < l.length)) B w' → Q .normal a' w') l 0 (fun _ => a)) : (Code.region id l.toArray true).wp P Q a w :=
  wp_region_eff2 (RfS .any l.toArray w S kA fs) (fun _ => (0, none)) hm hB (RfS.start _ _ _ _ _ _ _) h
end Go.Proofs.YtkjnlhidnkbelaaGreatDoor
