/- The statements' kit: lists of bytes that lie apart: the walk. -/
import Derived.Test.YtkjnlhidnkbelaaGreatDoorApC
import Derived.Deep.DeepCutAuto
namespace Go.Proofs.YtkjnlhidnkbelaaGreatDoor
open Go Go.RowKit

theorem flip_w {P : Program} {f : FuncId} {args : Array Value} {w : World} {v : Value} (h : Calls P f args w fun e w' => e = .returned v ∧ w = w') : Calls P f args w fun e w' => e = .returned v ∧ w' = w := h.mono fun _ _ ⟨a, b⟩ => ⟨a, b.symm⟩

set_option maxRecDepth 100000 in
set_option maxHeartbeats 4000000 in
theorem flatBytes_any (w : World) (F0 : Nat → Prop) (B : Option Addr) (c : Nat) (m : Nat) (A : Nat → Option Addr) (N cp : Nat → Nat) (f : Nat → List UInt8) (hs : Sl w F0 B (hdrs m A N cp)) (hr : RowsAt w m A N cp f) (hfar : FarR m A) (h0 : ∀ b, F0 b → ¬ InR m A b)
    (hm : m ≤ 1000000000) (hN : ∀ k, k < m → N k ≤ 1000000000000) :
    Calls Tryz.prog 119 #[.slice B m c] w fun e w' => e = .returned (.bool true) ∧ Fr (InR m A) w w' := by
  go_enter Tryz.func119, Tryz.ntmps119
  go_wp2_with fail
  go_loopw [3] (fun i wr => Ap1o w m A N cp i wr) (fun i _ => m - (intOf i).toNat)
  case atStart => exact ⟨0, Nat.zero_le _, rfl, f, hr, fun _ h => by omega, Fr.refl _ _⟩
  case round =>
    obtain ⟨k, hk, rfl, f1, hr1, hb1, hf1⟩ := hrel
    have HB1 := Lib.hid hb1
    clear hb1
    by_cases hlt : k < m
    · obtain ⟨b, o, rfl, hF, hc⟩ := (hs.fr hf1 h0).hdr hlt
      have hNk := hN k hlt
      go_wp2_with fail
      go_loopw [4] (fun i wx => Ap1i w m A N cp k i wx) (fun i _ => N k - (intOf i).toNat)
      case atStart => exact ⟨0, f1, Nat.zero_le _, rfl, hr1, HB1.out, rfl, hf1⟩
      case round =>
        obtain ⟨j, f2, hj, rfl, hr2, hb2, ht2, hf2⟩ := hrel
        have HB2 := Lib.hid hb2
        have HT2 := Lib.hid ht2
        clear hb2 ht2 hc
        obtain ⟨b', o', hB, hF', hc⟩ := (hs.fr hf2 h0).hdr hlt
        injection hB with hB
        injection hB with hB1' hB2' _
        subst hB1' hB2'
        by_cases hltj : j < N k
        · have ho := hr2 k hlt
          obtain ⟨g, hA⟩ : ∃ g, A k = some ⟨g, 0, none⟩ := by
            rcases ho.2 with ⟨_, h, _⟩ | ⟨g, cur, h, _⟩
            · omega
            · exact ⟨g, h⟩
          have hfz : ∀ i, wr.frozen? ⟨g, i, none⟩ = false := by
            rw [hA] at ho
            exact fun i => ho.frozenAt i
          obtain ⟨u, hcu⟩ : ∃ u, wr.cell? ⟨g, j, none⟩ = some u := by
            rw [hA] at ho
            have hl := ho.1
            exact ⟨_, (ho.cellAt (k := j) (by omega)).trans (List.getElem?_eq_getElem (by omega))⟩
          have hmk := fun w => markByte_any w (k : Int) (j : Int) (by omega) (by omega) (by omega) (by omega)
          rw [Int.toNat_natCast, Int.toNat_natCast] at hmk
          have HMK := Lib.hid hmk
          clear hmk
          have hnx := fun (w' : World) (h : w' = _) => Ap1i.next (w := w) (w' := w') hfar hlt hltj (f := f2) (wr := wr.drew) (hr2.fr (S := fun _ => False) (Fr.refl _ wr).drew (fun _ _ _ _ h => h)) HB2.out HT2.out hf2.drew hA h
          have HNX := Lib.hid hnx
          clear hnx
          rw [hA] at hc
          have hi0 : (j : Int) < (N k : Int) := by omega
          go_wp2_with fail
          refine wp_region_tail 9 (by kernel_rfl) (by kernel_rfl) ?_
          simp only [List.take_succ_cons, List.take_zero, List.drop_succ_cons, List.drop_zero]
          repeat (first | still_step | still_call (flip_w (HMK.out _)))
          refine wpStill_nil ?_
          go_wp2_with fail
          refine ⟨HNX.out _ rfl, ?_⟩
          simp [intOf]
          omega
        · have hfk : f2 k = mks k (N k) := by
            have h1 := HT2.out
            have h2 := hr2.len hlt
            rwa [List.take_of_length_le (by omega), show j = N k by omega] at h1
          have HFK := Lib.hid hfk
          clear hfk
          obtain rfl : j = N k := by omega
          go_wp2_with fail
          go_roundw
          case rel =>
            refine ⟨k + 1, by omega, by go_num, f2, hr2, fun i hi => ?_, hf2⟩
            by_cases e : i = k
            · subst e; exact HFK.out
            · exact HB2.out i (by omega)
          case measure => simp [intOf]; omega
    · obtain rfl : m = k := by omega
      have hr2 : RowsAt wr m A N cp (fun j => mks j (N j)) := hr1.congr HB1.out
      have hsz1 := hf1.size
      clear hr1 HB1
      go_wp2_with (at_make; refine wl_make rfl _ _ _ rfl 24 (.slice none 0 0) Tryz.underlying71 info_bytes rfl .i64 .i64 _ _ m rfl rfl rfl rfl (by omega) (by unfold maxLen; omega) ?_; intro w2 ho2 q2)
      have hf2 := hf1.tr (Nw.on q2)
      have hr3 := hr2.nw q2
      have hApG : ApG w m A N cp wr.heap.size (con1 N) 0 w2 := ⟨_, fun _ => none, fun _ => 0, ho2, fun _ h => by omega, fun _ h => by omega, fun _ h => by omega, hr3, hf2⟩
      obtain ⟨gg, hgg⟩ : ∃ gg, wr.heap.size = gg := ⟨_, rfl⟩
      rw [hgg] at hApG hsz1 ⊢
      clear hgg hr2 hf2 hr3 ho2 q2 hf1
      go_loopw [6] (fun i wx => ApGo w m A N cp gg (con1 N) i wx) (fun i _ => m - (intOf i).toNat)
      case atStart => exact ⟨0, Nat.zero_le _, rfl, hApG⟩
      case round =>
        clear hApG
        obtain ⟨k, hk, rfl, hG⟩ := hrel
        obtain ⟨wo, rfl⟩ : ∃ wo : World, wo = wr := ⟨_, rfl⟩
        have hrow := hG.rows
        have hfo := hG.fr
        by_cases hlt : k < m
        · obtain ⟨b, o, rfl, hF, hc⟩ := (hs.fr hfo h0).hdr hlt
          have hNk := hN k hlt
          have hAk : ∀ b, inA (A k) b → b < wo.heap.size := fun b hb => (hrow k hlt).lt b hb
          have hFk : ¬ inA (A k) b := fun h => h0 b hF ⟨k, hlt, h⟩
          have hbl := World.block_lt_of_cell? _ _ hc
          go_wp2_with fail
          go_loopw [7, 8] (fun v i wx => ApXi A N cp k wo v i wx) (fun _ i _ => 64 - (intOf i).toNat)
          case atStart => exact ⟨0, A k, cp k, by omega, rfl, rfl, Fr.refl _ _, by simpa using hrow k hlt, .inl ⟨rfl, rfl⟩, hrow k hlt⟩
          case round =>
            obtain ⟨j, X, c', hj, rfl, rfl, hX⟩ := hrel
            have hcx := (hX.1.cell (p := ⟨b, o + k, none⟩) hbl hFk).trans hc
            by_cases hltj : j < 64
            · have hmk := fun w => markByte_any w (k : Int) ((N k : Int) + (j : Int)) (by omega) (by omega) (by omega) (by omega)
              have e1 : ((N k : Int) + (j : Int)).toNat = N k + j := by omega
              rw [Int.toNat_natCast, e1] at hmk
              have hnx := fun (w1 w' : World) (A' : Option Addr) (cap' : Nat) (q1 : Nw wr w1) (h : AppTo w1 5 1 X (N k + j) c' 1 ((mks k (N k + j)).map B8) ([mkB k (N k + j)].map B8) A' cap' w') =>
                ApX.next hX q1 (by omega) (mks_len _ _) (by omega) (mks_take _ _ _ (by omega)) hAk h
              rw [← mks_succ] at hnx
              have hXo := hX.2.1
              generalize mkB k (N k + j) = z at hmk hnx
              have HMK := Lib.hid hmk
              have HNX := Lib.hid hnx
              clear hmk hnx e1 hc
              go_wp2_with (first | (go_at_call 73; refine (HMK.out _).mono ?_; rintro e w3 ⟨rfl, rfl⟩) | (at_builtin; refine wl_append2 rfl _ _ _ rfl 1 (.int .u8 0) Tryz.underlying22 info_u8 rfl (by decide) rfl (hXo.alloc _) rfl (sl_new _ _ [B8 z] _ rfl) rfl (B8_oneCell [z]) (by omega) (by unfold maxLen; omega) ?_; intro A' cap' w4 hap))
              go_roundw
              case rel => exact ⟨j + 1, A', cap', by omega, by go_num, rfl, HNX.out _ _ _ _ ((Fr.refl _ wr).alloc _) hap⟩
              case measure => simp [intOf]; omega
            · obtain rfl : j = 64 := by omega
              obtain ⟨cells, hgo⟩ := hG.own
              have hgo2 := hgo.fr hX.1 (fun j hj h => by rw [(inA_some _ _).1 hj] at h; exact hgo.off (hrow k hlt) (by decide) _ h ((inA_some _ _).2 rfl))
              obtain ⟨u, hcu⟩ : ∃ u, wr.cell? ⟨gg, k, none⟩ = some u := by
                have hl := hgo2.1
                exact ⟨_, (hgo2.cellAt (k := k) (by omega)).trans (List.getElem?_eq_getElem (by omega))⟩
              have hfz := hgo2.frozenAt k
              have hnx := fun (w' : World) (h : w' = _) => ApG.next (w' := w') hG hsz1 hr hfar hlt hX h
              have HNX := Lib.hid hnx
              have hi0 : (k : Int) < (m : Int) := by omega
              clear hnx hgo hgo2 hc hcx
              go_wp2_with fail
              go_roundw
              case rel => exact ⟨k + 1, by omega, by go_num, HNX.out _ rfl⟩
              case measure => simp [intOf]; omega
        · obtain rfl : m = k := by omega
          go_wp2_with fail
          go_loopw [9] (fun i wx => KnownNw wo m i wx) (fun i _ => m - (intOf i).toNat)
          case atStart => exact ⟨0, Nat.zero_le _, rfl, Fr.refl _ _⟩
          case round =>
            obtain ⟨k, hk, rfl, hq⟩ := hrel
            obtain ⟨wp, rfl⟩ : ∃ wp : World, wp = wr := ⟨_, rfl⟩
            by_cases hlt : k < m
            · obtain ⟨X, c', hgc, hgx⟩ := hG.cells hlt
              have hNk := hN k hlt
              have hgc2 := (hq.cell (p := ⟨gg, k, none⟩) (World.block_lt_of_cell? _ _ hgc) (fun h => h)).trans hgc
              have HGX := Lib.hid hgx
              clear hgc hgx
              have hi0 : (k : Int) < (m : Int) := by omega
              go_wp2_with fail
              go_loopw [10] (fun i wx => KnownNw wp (N k + 64) i wx) (fun i _ => N k + 64 - (intOf i).toNat)
              case atStart => exact ⟨0, Nat.zero_le _, rfl, Fr.refl _ _⟩
              case round =>
                obtain ⟨j, hj, rfl, hq2⟩ := hrel
                have hgc3 := (hq2.cell (p := ⟨gg, k, none⟩) (World.block_lt_of_cell? _ _ hgc2) (fun h => h)).trans hgc2
                by_cases hltj : j < N k + 64
                · obtain ⟨g, rfl, hcx⟩ := HGX.out j _ (con1_at N k j hltj)
                  have hcx2 := ((hq.tr hq2).cell (p := ⟨g, j, none⟩) (World.block_lt_of_cell? _ _ hcx) (fun h => h)).trans hcx
                  obtain ⟨b, o, rfl, hF, hc⟩ := ((hs.fr hfo h0).fr (hq.tr hq2) (fun _ _ h => h)).hdr hlt
                  have hmk := fun w => markByte_any w (k : Int) (j : Int) (by omega) (by omega) (by omega) (by omega)
                  rw [Int.toNat_natCast, Int.toNat_natCast] at hmk
                  have hlk := fun (h : j < N k) => (hrow.nw (hq.tr hq2)).cells hlt h
                  generalize mkB k j = z at hmk hcx2 hlk
                  have HMK := Lib.hid hmk
                  have HLK := Lib.hid hlk
                  clear hmk hcx hlk
                  have hi1 : (j : Int) < (N k : Int) + 64 := by omega
                  have d1 := fun (n : Later wr) => n.cell hgc3
                  have d2 := fun (n : Later wr) => n.cell hcx2
                  have d3 := fun (n : Later wr) => n.cell hc
                  by_cases hjk : j < N k
                  · obtain ⟨g2, hA2, hcl⟩ := HLK.out hjk
                    rw [hA2] at d3
                    have d4 := fun (n : Later wr) => n.cell hcl
                    have hi2 : (j : Int) < (N k : Int) := by omega
                    clear hcl hcx2 hc
                    go_wp2_with fail
                    refine wp_region_later (by kernel_rfl) (by kernel_rfl) ?_
                    repeat (go_big_quiet_step ((go_at_call 73; exact Later.same (HMK.out _))))
                    refine wpQuiet_later fun w5 q5 => ?_
                    clear d1 d2 d3 d4
                    go_wp2_with fail
                    go_roundw
                    case rel => exact ⟨j + 1, by omega, by go_num, hq2.tr q5⟩
                    case measure => simp [intOf]; omega
                  · have hi2 : decide ((j : Int) < (N k : Int)) = false := decide_eq_false (by omega)
                    have hi3 : decide (j < N k) = false := decide_eq_false (by omega)
                    clear hcx2 hc
                    go_wp2_with fail
                    refine wp_region_later (by kernel_rfl) (by kernel_rfl) ?_
                    repeat (go_big_quiet_step ((go_at_call 73; exact Later.same (HMK.out _))))
                    refine wpQuiet_later fun w5 q5 => ?_
                    clear d1 d2 d3
                    go_wp2_with fail
                    go_roundw
                    case rel => exact ⟨j + 1, by omega, by go_num, hq2.tr q5⟩
                    case measure => simp [intOf]; omega
                · obtain rfl : j = N k + 64 := by omega
                  go_wp2_with fail
                  go_roundw
                  case rel => exact ⟨k + 1, by omega, by go_num, hq.tr hq2⟩
                  case measure => simp [intOf]; omega
            · obtain rfl : m = k := by omega
              obtain ⟨cells, hgo⟩ := hG.own
              have hgo2 := hgo.fr hq (fun _ _ h => h)
              have hrow2 := hrow.nw hq
              have hfo2 := hfo.tr (Nw.on hq)
              have hA2 : ApG w m A N cp gg (con2 m N) 0 wp := ⟨cells, fun _ => none, fun _ => 0, hgo2, fun _ h => by omega, fun _ h => by omega, fun _ h => by omega, hrow2, hfo2⟩
              clear hG hrow hfo hgo hgo2 hrow2 hfo2 hq
              go_wp2_with fail
              go_loopw [11] (fun i wx => ApGo w m A N cp gg (con2 m N) i wx) (fun i _ => m - (intOf i).toNat)
              case atStart => exact ⟨0, Nat.zero_le _, rfl, hA2⟩
              case round =>
                clear hA2
                obtain ⟨k, hk, rfl, hG⟩ := hrel
                obtain ⟨wo, rfl⟩ : ∃ wo : World, wo = wr := ⟨_, rfl⟩
                have hrow := hG.rows
                have hfo := hG.fr
                by_cases hlt : k < m
                · obtain ⟨b, o, rfl, hF, hc⟩ := (hs.fr hfo h0).hdr hlt
                  have hNk := hN k hlt
                  have hAk : ∀ b, inA (A k) b → b < wo.heap.size := fun b hb => (hrow k hlt).lt b hb
                  have hbl := World.block_lt_of_cell? _ _ hc
                  go_wp2_with (at_make; refine wl_make rfl _ _ _ rfl 1 (.int .u8 0) Tryz.underlying22 info_u8 rfl .i64 .i64 _ _ 64 rfl rfl rfl rfl (by omega) (by unfold maxLen; omega) ?_; intro wy hoy qy)
                  obtain ⟨gm, hgm⟩ : ∃ gm, wo.heap.size = gm := ⟨_, rfl⟩
                  have hgm2 : wo.heap.size ≤ gm := Nat.le_of_eq hgm
                  rw [hgm] at hoy ⊢
                  clear hgm
                  have hoy2 : Own wy 5 1 (some ⟨gm, 0, none⟩) 64 64 ((List.replicate 64 (0 : UInt8)).map B8) := by
                    rw [List.map_replicate]
                    exact hoy
                  clear hoy
                  have HOY := Lib.hid hoy2
                  clear hoy2
                  go_wp2_with fail
                  go_loopw [13] (fun i wx => ManyR (k + m) gm wy i wx) (fun i _ => 64 - (intOf i).toNat)
                  case atStart => exact ⟨0, _, by omega, rfl, HOY.out, rfl, Fr.refl _ _⟩
                  case round =>
                    obtain ⟨j, cs, hj, rfl, hom, ht, hfm⟩ := hrel
                    have HT := Lib.hid ht
                    clear ht HOY
                    have hcl : cs.length = 64 := by have := hom.1; simpa using this
                    have HCL := Lib.hid hcl
                    clear hcl
                    by_cases hltj : j < 64
                    · have hmk := fun w => markByte_any w ((k : Int) + (m : Int)) (j : Int) (by omega) (by omega) (by omega) (by omega)
                      have e1 : ((k : Int) + (m : Int)).toNat = k + m := by omega
                      rw [Int.toNat_natCast, e1] at hmk
                      have hnx := fun (w' : World) (h : w' = _) => ManyR.next (w' := w') hom HT.out hfm hltj h
                      generalize mkB (k + m) j = z at hmk hnx
                      have HMK := Lib.hid hmk
                      have HNX := Lib.hid hnx
                      obtain ⟨u, hcu⟩ : ∃ u, wr.cell? ⟨gm, j, none⟩ = some u := by
                        have hl := hom.1
                        exact ⟨_, (hom.cellAt (k := j) (by omega)).trans (List.getElem?_eq_getElem (by omega))⟩
                      have hfz := hom.frozenAt j
                      clear hmk hnx e1
                      have hi0 : (j : Int) < 64 := by omega
                      go_wp2_with (go_at_call 73; refine (HMK.out _).mono ?_; rintro e w3 ⟨rfl, rfl⟩)
                      refine ⟨HNX.out _ rfl, ?_⟩
                      simp [intOf]
                      omega
                    · obtain rfl : j = 64 := by omega
                      have hcs : cs = mks (k + m) 64 := by
                        have := HT.out
                        rwa [List.take_of_length_le (by rw [HCL.out]; omega)] at this
                      subst hcs
                      clear HT HCL
                      have hx0 : ApX A N cp k wo (mks k (N k)) (A k) (N k) (cp k) wr := by
                        have hf9 : Fr (inA (A k)) wo wr := (Nw.on qy).trans hfm (fun j hj => .inr (by rw [hj]; exact hgm2))
                        have ho9 := ((hrow k hlt).fr qy (fun _ _ h => h)).fr hfm (fun j hj e => by have := hAk j hj; omega)
                        exact ⟨hf9, ho9, .inl ⟨rfl, rfl⟩, ho9⟩
                      have hFk : ¬ inA (A k) b := fun h => h0 b hF ⟨k, hlt, h⟩
                      have hcx := (hx0.1.cell (p := ⟨b, o + k, none⟩) hbl hFk).trans hc
                      have hnx := fun (w' : World) (A' : Option Addr) (cap' : Nat) (h : AppTo wr 5 1 (A k) (N k) (cp k) 64 ((mks k (N k)).map B8) ((mks (k + m) 64).map B8) A' cap' w') =>
                        ApX.next hx0 (Fr.refl _ _) (by omega) (mks_len _ _) (Nat.le_refl _) (mks_take _ _ _ (Nat.le_refl _)) hAk h
                      have HNX := Lib.hid hnx
                      clear hnx
                      have hXo := hx0.2.1
                      have hml : ((mks (k + m) 64).map B8).length = 64 * 1 := by rw [List.length_map, mks_len]
                      have HML := Lib.hid hml
                      clear hml hc
                      obtain ⟨cells2, hgo⟩ := hG.own
                      have hng : ∀ j, inA (some ⟨gg, 0, none⟩) j → ¬ inA (A k) j := fun j hj h => by rw [(inA_some _ _).1 hj] at h; exact hgo.off (hrow k hlt) (by decide) _ h ((inA_some _ _).2 rfl)
                      have HNG := Lib.hid hng
                      clear hng
                      have hi0 : (k : Int) < (m : Int) := by omega
                      go_wp2_with (at_builtin; refine wl_append2 rfl _ _ _ rfl 1 (.int .u8 0) Tryz.underlying22 info_u8 rfl (by decide) rfl hXo rfl hom.sl HML.out (B8_oneCell _) (by omega) (by unfold maxLen; omega) ?_; intro A' cap' w4 hap; have hx4 := HNX.out w4 A' cap' hap; have hgo4 := hgo.fr hx4.1 HNG.out; obtain ⟨u, hcu⟩ := hgo4.cellEx hlt; have hfz := hgo4.frozenAt k)
                      go_roundw
                      case rel => exact ⟨k + 1, by omega, by go_num, ApG.next hG hsz1 hr hfar hlt hx4 rfl⟩
                      case measure => simp [intOf]; omega
                · obtain rfl : m = k := by omega
                  go_wp2_with fail
                  go_loopw [14] (fun i wx => KnownNw wo m i wx) (fun i _ => m - (intOf i).toNat)
                  case atStart => exact ⟨0, Nat.zero_le _, rfl, Fr.refl _ _⟩
                  case round =>
                    obtain ⟨k, hk, rfl, hq⟩ := hrel
                    obtain ⟨wp, rfl⟩ : ∃ wp : World, wp = wr := ⟨_, rfl⟩
                    by_cases hlt : k < m
                    · obtain ⟨X, c', hgc, hgx⟩ := hG.cells hlt
                      have hNk := hN k hlt
                      have HGX := Lib.hid hgx
                      clear hgx
                      have hi0 : (k : Int) < (m : Int) := by omega
                      have hs5 := hs.fr hfo h0
                      obtain ⟨b, o, rfl, hF, hc⟩ := hs5.hdr hlt
                      have hcp := (hq.cell (p := ⟨b, o + k, none⟩) (World.block_lt_of_cell? _ _ hc) (fun h => h)).trans hc
                      go_wp2_with fail
                      go_loopw [15] (fun i wx => KnownNw wp (N k) i wx) (fun i _ => N k - (intOf i).toNat)
                      case atStart => exact ⟨0, Nat.zero_le _, rfl, Fr.refl _ _⟩
                      case round =>
                        obtain ⟨j, hj, rfl, hq2⟩ := hrel
                        have hcr := (hq2.cell (p := ⟨b, o + k, none⟩) (World.block_lt_of_cell? _ _ hcp) (fun h => h)).trans hcp
                        by_cases hltj : j < N k
                        · obtain ⟨g, rfl, hcx⟩ := HGX.out j _ (con2_at m N k j hltj)
                          have hcx2 := ((hq.tr hq2).cell (p := ⟨g, j, none⟩) (World.block_lt_of_cell? _ _ hcx) (fun h => h)).trans hcx
                          have hgc2 := ((hq.tr hq2).cell (p := ⟨gg, k, none⟩) (World.block_lt_of_cell? _ _ hgc) (fun h => h)).trans hgc
                          have hmk := fun w => markByte_any w (k : Int) (j : Int) (by omega) (by omega) (by omega) (by omega)
                          rw [Int.toNat_natCast, Int.toNat_natCast] at hmk
                          obtain ⟨g2, hA2, hcl⟩ := (hrow.nw (hq.tr hq2)).cells hlt hltj
                          generalize mkB k j = z at hmk hcx2 hcl
                          have HMK := Lib.hid hmk
                          clear hmk hcx hgc
                          rw [hA2] at hcr
                          have hi1 : (j : Int) < (N k : Int) + 64 := by omega
                          have hi2 : (j : Int) < (N k : Int) := by omega
                          have d1 := fun (n : Later wr) => n.cell hgc2
                          have d2 := fun (n : Later wr) => n.cell hcx2
                          have d3 := fun (n : Later wr) => n.cell hcr
                          have d4 := fun (n : Later wr) => n.cell hcl
                          clear hcx2 hcl hc hcp
                          go_wp2_with fail
                          refine wp_region_later (by kernel_rfl) (by kernel_rfl) ?_
                          repeat (go_big_quiet_step ((go_at_call 73; exact Later.same (HMK.out _))))
                          refine wpQuiet_later fun w5 q5 => ?_
                          clear d1 d2 d3 d4
                          go_wp2_with fail
                          go_roundw
                          case rel => exact ⟨j + 1, by omega, by go_num, hq2.tr q5⟩
                          case measure => simp [intOf]; omega
                        · obtain rfl : j = N k := by omega
                          go_wp2_with fail
                          go_roundw
                          case rel => exact ⟨k + 1, by omega, by go_num, hq.tr hq2⟩
                          case measure => simp [intOf]; omega
                    · go_wp2_with fail
                      go_ret
                      exact ⟨rfl, hfo.tr (Nw.on hq)⟩
end Go.Proofs.YtkjnlhidnkbelaaGreatDoor
