/- Lemmas of the walks: FtI, FtB. (Laid together by shake.py.) -/
import Derived.Test.YtippdjaakcgeoaaGreatEa10
set_option linter.unusedVariables false
set_option linter.unusedSimpArgs false
set_option maxRecDepth 100000
set_option maxHeartbeats 16000000
namespace Go.Proofs.YtippdjaakcgeoaaGreat
open Go Go.RowKit
def mkIL (k i : Nat) : List Value := [I64 (mkI k i)]
theorem zm4 (k i : Nat) : (mkIL k i).length = 1 := rfl
theorem zh7 : (Tryz.prog.info? 3).map (fun i => (i.zero, i.size, i.bytes)) = some (some (.int .i64 0), 1, 8) := by kernel_rfl
theorem zmy (w : World) (F0 : Nat → Prop) (B : Option Addr) (c : Nat) (m : Nat) (A : Nat → Option Addr) (N cp : Nat → Nat) (f : Nat → List Value) (hs : Sl w F0 B (hdrs m A N cp)) (hr : zb4 w 3 1 m A N cp f) (hfar : FarC m A cp) (h0 : ∀ b, F0 b → ¬ InC m A cp b)
  (hm : m ≤ 1000000000) (hN : ∀ k, k < m → N k ≤ 100000000000) :
  Calls Tryz.prog 111 #[.slice B m c] w fun e w' => e = .returned (.bool true) ∧ Fr (InC m A cp) w w' := by
 have hmkl := zm4
 go_enter Tryz.func111, Tryz.ntmps111
 go_wp2_with fail
 go_loopw [3] (fun i wr => Fl1o mkIL 3 1 w m A N cp i wr) (fun i _ => m - (intOf i).toNat)
 case atStart => exact ⟨0, Nat.zero_le _, rfl, f, hr, fun _ h => by omega, Fr.refl _ _⟩
 case round =>
  obtain ⟨k, hk, rfl, f1, hr1, hb1, hf1⟩ := hrel
  have HB1 := Lib.hid hb1
  clear hb1
  by_cases hlt : k < m
  ·obtain ⟨b, o, rfl, hF, hc⟩ := (hs.fr hf1 h0).hdr hlt
   have hNk := hN k hlt
   go_wp2_with fail
   go_loopw [4] (fun i wx => Fl1i mkIL 3 1 w m A N cp k i wx) (fun i _ => N k - (intOf i).toNat)
   case atStart => exact ⟨0, f1, Nat.zero_le _, rfl, hr1, HB1.out, (by simp [mksL]), hf1⟩
   case round =>
    obtain ⟨j, f2, hj, rfl, hr2, hb2, ht2, hf2⟩ := hrel
    have HB2 := Lib.hid hb2
    have HT2 := Lib.hid ht2
    clear hb2 ht2 hc
    obtain ⟨b', o', hB, hF', hc⟩ := (hs.fr hf2 h0).hdr hlt
    injection hB with hB
    injection hB with hB1' hB2' _
    subst hB1' hB2'
    by_cases hltj : j < N k
    ·have ho := hr2 k hlt
     obtain ⟨g, hA, hho, o1⟩ := ho.at_ (by have := ho.cap_le.1; omega)
     have hcu5 : ∀ w', Nw wr w' → (∃ u, w'.cell? ⟨g, j, none⟩ = some u) ∧ w'.frozen? ⟨g, j, none⟩ = false := fun w' q => ⟨(o1.fr q (fun _ _ h => h)).cellEx (by omega), (o1.fr q (fun _ _ h => h)).frozenAt j⟩
     have hmk : ∀ n : za0 wr, _ := fun n => zct n.at_ k j (by omega) (by omega)
     have hnx : ∀ w1, Nw wr w1 → ∀ w', w' = w1.setCell ⟨g, j, none⟩ (I64 (mkI k j)) → Fl1i mkIL 3 1 w m A N cp k (.int .i64 ((j : Int) + 1)) w' := fun w1 q w' h => Fl1i.next hmkl hfar hlt hltj (hr2.nw q) HB2.out HT2.out (hf2.tr (Nw.on q)) hA (by rw [h, Nat.mul_one]; rfl)
     obtain ⟨x, hxx⟩ : ∃ x, mkI k j = x := ⟨_, rfl⟩
     rw [hxx] at hmk hnx
     have HCU := Lib.hid hcu5
     have HMK := Lib.hid hmk
     have HNX := Lib.hid hnx
     clear hcu5 hmk hnx o1 ho hxx
     rw [hA] at hc
     have hi0 : (j : Int) < (N k : Int) := by omega
     have hi1 : decide ((j : Int) < (N k : Int)) = true := decide_eq_true hi0
     have hi2 : decide (j < N k) = true := decide_eq_true hltj
     have d1 := fun (n : za0 wr) => n.cell hc
     go_wp2_with fail
     refine zce 9 (by kernel_rfl) (by kernel_rfl) ?_
     simp only [List.take_succ_cons, List.take_zero, List.drop_succ_cons, List.drop_zero]
     repeat (go_big_quiet_step ((go_at_call 136; exact za0.same (HMK.out _))))
     refine wpQuiet_nil ?_
     intro w5 q5
     obtain ⟨⟨u, hcu⟩, hfz⟩ := HCU.out w5 q5
     go_wp2_with fail
     refine ⟨HNX.out w5 q5 _ rfl, ?_⟩
     simp [intOf]
     omega
    ·have hfk : f2 k = mksL mkIL k (N k) := by
      have h1 := HT2.out
      have h2 := (hr2 k hlt).len
      rwa [List.take_of_length_le (by rw [h2]; exact Nat.mul_le_mul_right _ (by omega)), show j = N k by omega] at h1
     have HFK := Lib.hid hfk
     clear hfk
     obtain rfl : j = N k := by omega
     go_wp2_with fail
     go_roundw
     case rel =>
      refine ⟨k + 1, by omega, by go_num, f2, hr2, fun i hi => ?_, hf2⟩
      by_cases e : i = k
      ·subst e; exact HFK.out
      ·exact HB2.out i (by omega)
     case measure => simp [intOf]; omega
  ·obtain rfl : m = k := by omega
   have hr2 : zb4 wr 3 1 m A N cp (fun j => mksL mkIL j (N j)) := hr1.congr HB1.out
   have hsz1 := hf1.size
   clear hr1 HB1
   go_wp2_with (at_make; refine ze6 rfl _ _ _ rfl 24 (.slice none 0 0) Tryz.underlying96 zjb rfl .i64 .i64 _ _ m rfl rfl rfl rfl (by omega) (by unfold maxLen; omega) ?_; intro w2 ho2 q2)
   have hf2 := hf1.tr (Nw.on q2)
   have hr3 := hr2.nw q2
   have hApG : FlG mkIL 3 41 1 w m A N cp wr.heap.size (conA mkIL N) 0 w2 := ⟨_, fun _ => none, fun _ => 0, ho2, fun _ h => by omega, fun _ h => by omega, fun _ h => by omega, hr3, hf2⟩
   obtain ⟨gg, hgg⟩ : ∃ gg, wr.heap.size = gg := ⟨_, rfl⟩
   rw [hgg] at hApG hsz1 ⊢
   clear hgg hr2 hf2 hr3 ho2 q2 hf1
   go_loopw [6] (fun i wx => FlGo mkIL 3 41 1 w m A N cp gg (conA mkIL N) i wx) (fun i _ => m - (intOf i).toNat)
   case atStart => exact ⟨0, Nat.zero_le _, rfl, hApG⟩
   case round =>
    clear hApG
    obtain ⟨k, hk, rfl, hG⟩ := hrel
    obtain ⟨wo, rfl⟩ : ∃ wo : World, wo = wr := ⟨_, rfl⟩
    have hrow := hG.rows
    have hfo := hG.fr
    by_cases hlt : k < m
    ·obtain ⟨b, o, rfl, hF, hc⟩ := (hs.fr hfo h0).hdr hlt
     have hNk := hN k hlt
     have hAk : ∀ b, inA (hom (A k) (cp k)) b → b < wo.heap.size := fun b hb => (hrow k hlt).lt b hb
     have hFk : ¬ inA (hom (A k) (cp k)) b := fun h => h0 b hF ⟨k, hlt, h⟩
     have hbl := World.block_lt_of_cell? _ _ hc
     go_wp2_with fail
     go_loopw [7, 8] (fun v i wx => FlXi mkIL 3 1 A N cp k wo v i wx) (fun _ i _ => 64 - (intOf i).toNat)
     case atStart => exact ⟨0, A k, cp k, by omega, rfl, rfl, Fr.refl _ _, by simpa using hrow k hlt, .inl ⟨rfl, rfl⟩, hrow k hlt⟩
     case round =>
      obtain ⟨j, X, c', hj, rfl, rfl, hX⟩ := hrel
      have hcx := (hX.1.cell (p := ⟨b, o + k, none⟩) hbl hFk).trans hc
      by_cases hltj : j < 64
      ·have hmk := fun w => zct w k (N k + j) (by omega) (by omega)
       have hju : (((N k + j : Nat)) : Int) = (N k : Int) + (j : Int) := by omega
       rw [hju] at hmk
       have hnx := fun (w1 w' : World) (A' : Option Addr) (cap' : Nat) (q1 : Nw wr w1) (h : AppC w1 3 1 X (N k + j) c' 1 (mksL mkIL k (N k + j)) ([I64 (mkI k (N k + j))]) A' cap' w') =>
        FlX.next hX q1 (by omega) (zaZ hmkl _ _) (by omega) (zcD hmkl _ _ _ (by omega)) hAk h
       have hnx2 : ∀ (w1 w' : World) (A' : Option Addr) (cap' : Nat), Nw wr w1 → AppC w1 3 1 X (N k + j) c' 1 (mksL mkIL k (N k + j)) ([I64 (mkI k (N k + j))]) A' cap' w' → FlXi mkIL 3 1 A N cp k wo (.slice A' (N k + j + 1) cap') (.int .i64 ((j : Int) + 1)) w' := fun w1 w' A' cap' q1 h =>
        ⟨j + 1, A', cap', by omega, by go_num, rfl, by have := hnx w1 w' A' cap' q1 h; have e : mksL mkIL k (N k + (j + 1)) = mksL mkIL k (N k + j) ++ [I64 (mkI k (N k + j))] := zcU _ _ _; rw [e]; exact this⟩
       have hXo := hX.2.1
       have hcm : ∀ u ∈ [I64 (mkI k (N k + j))], u.oneCell' = true := by intro u hu; rw [List.mem_singleton.1 hu]; rfl
       have hcs : (mksL mkIL k (N k + j)).length = (N k + j) * 1 := zaZ hmkl _ _
       generalize mksL mkIL k (N k + j) = con at hnx2 hXo hcs
       obtain ⟨x, hxx⟩ : ∃ x, mkI k (N k + j) = x := ⟨_, rfl⟩
       rw [hxx] at hmk hnx2 hcm
       have hlen : [I64 (x)].length = 1 * 1 := rfl
       have HMK := Lib.hid hmk
       have HNX := Lib.hid hnx2
       have HCS := Lib.hid hcs
       have HX := Lib.hid hX
       clear hmk hnx hnx2 hju hc hcs hX hxx
       go_wp2_with fail
       refine (HMK.out _).mono ?_
       rintro e w3 ⟨rfl, rfl⟩
       have q3 : Nw wr wr := Fr.refl (fun _ => False) _
       have sln := zaI wr 3 [I64 (x)] _ rfl
       have qa : Nw wr (wr.alloc (.cells #[I64 (x)] 3)) := (Fr.refl (fun _ => False) _).alloc _
       have hoa := hXo.nw qa
       obtain ⟨V2, hV2⟩ : ∃ V, V = wr.alloc (.cells #[I64 (x)] 3) := ⟨_, rfl⟩
       rw [← hV2] at sln qa hoa
       have HV2 := Lib.hid hV2
       clear hV2
       go_wp2_with (at_builtin; rw [← HV2.out]; refine zcu rfl _ _ _ rfl 8 (.int .i64 0) Tryz.underlying41 zh7 rfl (by decide) rfl hoa rfl sln hlen hcm (by omega) (by unfold maxLen; omega) (by omega) ?_; intro A' cap' w4 hap)
       go_roundw
       case rel => exact HNX.out _ _ _ _ (q3.tr qa) hap
       case measure => simp [intOf]; omega
      ·obtain rfl : j = 64 := by omega
       obtain ⟨cells, hgo⟩ := hG.own
       have hng : ¬ inA (hom (A k) (cp k)) gg := fun h => by
        obtain ⟨cur0, hbg, _⟩ := hgo.blk
        exact (hrow k hlt).offB hbg (by decide) h
       have hgo2 := hgo.fr hX.1 (fun j hj h => by rw [(za9 _ _).1 hj] at h; exact hng h)
       obtain ⟨u, hcu⟩ : ∃ u, wr.cell? ⟨gg, k, none⟩ = some u := hgo2.cellEx (by omega)
       have hfz := hgo2.frozenAt k
       have hnx := fun (w' : World) (h : w' = _) => FlG.next (w' := w') (EE := 41) (by decide) (by omega) hG hsz1 hr hfar hlt hX h
       have HNX := Lib.hid hnx
       have hi0 : (k : Int) < (m : Int) := by omega
       have HX := Lib.hid hX
       have HGG := Lib.hid hG
       clear hnx hgo hgo2 hc hcx hX hG
       go_wp2_with fail
       go_roundw
       case rel => exact ⟨k + 1, by omega, by go_num, HNX.out _ rfl⟩
       case measure => simp [intOf]; omega
    ·obtain rfl : m = k := by omega
     go_wp2_with fail
     go_loopw [9] (fun i wx => zbt wo m i wx) (fun i _ => m - (intOf i).toNat)
     case atStart => exact ⟨0, Nat.zero_le _, rfl, Fr.refl _ _⟩
     case round =>
      obtain ⟨k, hk, rfl, hq⟩ := hrel
      obtain ⟨wp, rfl⟩ : ∃ wp : World, wp = wr := ⟨_, rfl⟩
      by_cases hlt : k < m
      ·obtain ⟨X, c', hgc, hgx⟩ := hG.cells hlt
       have hNk := hN k hlt
       have hgc2 := (hq.cell (p := ⟨gg, k, none⟩) (World.block_lt_of_cell? _ _ hgc) (fun h => h)).trans hgc
       have HGX := Lib.hid hgx
       clear hgc hgx
       have hi0 : (k : Int) < (m : Int) := by omega
       go_wp2_with fail
       go_loopw [10] (fun i wx => zbt wp (N k + 64) i wx) (fun i _ => N k + 64 - (intOf i).toNat)
       case atStart => exact ⟨0, Nat.zero_le _, rfl, Fr.refl _ _⟩
       case round =>
        obtain ⟨j, hj, rfl, hq2⟩ := hrel
        have hgc3 := (hq2.cell (p := ⟨gg, k, none⟩) (World.block_lt_of_cell? _ _ hgc2) (fun h => h)).trans hgc2
        by_cases hltj : j < N k + 64
        ·obtain ⟨g, rfl, hcx⟩ := zci (z := 1) (l := mkIL k j) rfl (by omega) HGX.out (zfx hmkl N k j hltj)
         have hcx2 := zcW hcx (hq.tr hq2)
         obtain ⟨b, o, rfl, hF, hc⟩ := ((hs.fr hfo h0).fr (hq.tr hq2) (fun _ _ h => h)).hdr hlt
         have hmk : ∀ n : za0 wr, _ := fun n => zct n.at_ k j (by omega) (by omega)
         have hlk := fun (h : j < N k) => (hrow.nw (hq.tr hq2)).cell hmkl hlt h
         have hMK : mkIL k j = [I64 (mkI k j)] := rfl
         rw [hMK] at hcx2 hlk
         obtain ⟨x, hxx⟩ : ∃ x, mkI k j = x := ⟨_, rfl⟩
         rw [hxx] at hmk hcx2 hlk
         have HMK := Lib.hid hmk
         have HLK := Lib.hid hlk
         have d2 := fun (n : za0 wr) => n.cell (show wr.cell? ⟨g, j, none⟩ = some (I64 (x)) by have h := hcx2 0 _ rfl; rwa [Nat.mul_one] at h)
         clear hmk hcx hcx2 hlk hMK hxx
         have hi1 : (j : Int) < (N k : Int) + 64 := by omega
         have hi4 : decide ((j : Int) < (N k : Int) + 64) = true := decide_eq_true hi1
         have hi5 : decide (j < N k + 64) = true := decide_eq_true hltj
         have d1 := fun (n : za0 wr) => n.cell hgc3
         have d3 := fun (n : za0 wr) => n.cell hc
         by_cases hjk : j < N k
         ·obtain ⟨g2, hA2, hcl⟩ := HLK.out hjk
          rw [hA2] at d3
          have d4 := fun (n : za0 wr) => n.cell (show wr.cell? ⟨g2, j, none⟩ = some (I64 (x)) by have h := hcl 0 _ rfl; rwa [Nat.mul_one] at h)
          have hi2 : (j : Int) < (N k : Int) := by omega
          have hi6 : decide ((j : Int) < (N k : Int)) = true := decide_eq_true hi2
          have hi7 : decide (j < N k) = true := decide_eq_true hjk
          clear hcl hc HLK
          go_wp2_with fail
          refine zae (by kernel_rfl) (by kernel_rfl) ?_
          repeat (go_big_quiet_step ((go_at_call 136; exact za0.same (HMK.out _))))
          refine zaj fun w5 q5 => ?_
          clear d1 d2 d3
          go_wp2_with fail
          go_roundw
          case rel => exact ⟨j + 1, by omega, by go_num, hq2.tr q5⟩
          case measure => simp [intOf]; omega
         ·have hi2 : decide ((j : Int) < (N k : Int)) = false := decide_eq_false (by omega)
          have hi3 : decide (j < N k) = false := decide_eq_false (by omega)
          clear hc HLK
          go_wp2_with fail
          refine zae (by kernel_rfl) (by kernel_rfl) ?_
          repeat (go_big_quiet_step ((go_at_call 136; exact za0.same (HMK.out _))))
          refine zaj fun w5 q5 => ?_
          clear d1 d2 d3
          go_wp2_with fail
          go_roundw
          case rel => exact ⟨j + 1, by omega, by go_num, hq2.tr q5⟩
          case measure => simp [intOf]; omega
        ·obtain rfl : j = N k + 64 := by omega
         go_wp2_with fail
         go_roundw
         case rel => exact ⟨k + 1, by omega, by go_num, hq.tr hq2⟩
         case measure => simp [intOf]; omega
      ·obtain rfl : m = k := by omega
       obtain ⟨cells, hgo⟩ := hG.own
       have hgo2 := hgo.fr hq (fun _ _ h => h)
       have hrow2 := hrow.nw hq
       have hfo2 := hfo.tr (Nw.on hq)
       have hA2 : FlG mkIL 3 41 1 w m A N cp gg (conB mkIL m N) 0 wp := ⟨cells, fun _ => none, fun _ => 0, hgo2, fun _ h => by omega, fun _ h => by omega, fun _ h => by omega, hrow2, hfo2⟩
       clear hG hrow hfo hgo hgo2 hrow2 hfo2 hq
       go_wp2_with fail
       go_loopw [11] (fun i wx => FlGo mkIL 3 41 1 w m A N cp gg (conB mkIL m N) i wx) (fun i _ => m - (intOf i).toNat)
       case atStart => exact ⟨0, Nat.zero_le _, rfl, hA2⟩
       case round =>
        clear hA2
        obtain ⟨k, hk, rfl, hG⟩ := hrel
        obtain ⟨wo, rfl⟩ : ∃ wo : World, wo = wr := ⟨_, rfl⟩
        have hrow := hG.rows
        have hfo := hG.fr
        by_cases hlt : k < m
        ·obtain ⟨b, o, rfl, hF, hc⟩ := (hs.fr hfo h0).hdr hlt
         have hNk := hN k hlt
         have hAk : ∀ b, inA (hom (A k) (cp k)) b → b < wo.heap.size := fun b hb => (hrow k hlt).lt b hb
         have hbl := World.block_lt_of_cell? _ _ hc
         go_wp2_with (at_make; refine zeP rfl _ _ _ rfl 8 (.int .i64 0) Tryz.underlying41 zh7 .i64 .i64 _ _ 64 rfl rfl rfl rfl (by omega) (by unfold maxLen; omega) ?_; intro wy csy hoy qy)
         obtain ⟨gm, hgm⟩ : ∃ gm, wo.heap.size = gm := ⟨_, rfl⟩
         have hgm2 : wo.heap.size ≤ gm := Nat.le_of_eq hgm
         rw [hgm] at hoy ⊢
         clear hgm
         have HOY := Lib.hid hoy
         clear hoy
         go_wp2_with fail
         go_loopw [13] (fun i wx => zcQ mkIL 3 1 (k + m) gm wy i wx) (fun i _ => 64 - (intOf i).toNat)
         case atStart => exact ⟨0, csy, by omega, rfl, HOY.out, (by simp [mksL]), Fr.refl _ _⟩
         case round =>
          obtain ⟨j, cs, hj, rfl, hom_, ht, hfm⟩ := hrel
          have HT := Lib.hid ht
          clear ht HOY
          have hcl : cs.length = 64 * 1 := hom_.1
          have HCL := Lib.hid hcl
          clear hcl
          by_cases hltj : j < 64
          ·have hmk := fun w => zct w (k + m) j (by omega) (by omega)
           have hju : ((k + m : Nat) : Int) = (k : Int) + (m : Int) := by omega
           rw [hju] at hmk
           have hnx : ∀ w', w' = wr.setCell ⟨gm, j, none⟩ (I64 (mkI (k + m) j)) → zcQ mkIL 3 1 (k + m) gm wy (.int .i64 ((j : Int) + 1)) w' := fun w' h => zcQ.next (w' := w') hmkl hom_ HT.out hfm hltj (by rw [h, Nat.mul_one]; rfl)
           obtain ⟨x, hxx⟩ : ∃ x, mkI (k + m) j = x := ⟨_, rfl⟩
           rw [hxx] at hmk hnx
           have HMK := Lib.hid hmk
           have HNX := Lib.hid hnx
           obtain ⟨u, hcu⟩ : ∃ u, wr.cell? ⟨gm, j, none⟩ = some u := hom_.cellEx (by omega)
           have hfz := hom_.frozenAt j
           clear hmk hnx hju hxx
           have hi0 : (j : Int) < 64 := by omega
           have hi1 : decide ((j : Int) < 64) = true := decide_eq_true hi0
           have hi2 : decide (j < 64) = true := decide_eq_true hltj
           go_wp2_with (go_at_call 136; refine (HMK.out _).mono ?_; rintro e w3 ⟨rfl, rfl⟩)
           refine ⟨HNX.out _ rfl, ?_⟩
           simp [intOf]
           omega
          ·obtain rfl : j = 64 := by omega
           have hcs : cs = mksL mkIL (k + m) 64 := by
            have := HT.out
            rwa [List.take_of_length_le (by rw [HCL.out]; omega)] at this
           subst hcs
           clear HT HCL
           have hx0 : FlX mkIL 3 1 A N cp k wo (mksL mkIL k (N k)) (A k) (N k) (cp k) wr := by
            have hf9 : Fr (inA (hom (A k) (cp k))) wo wr := (Nw.on qy).trans hfm (fun j hj => .inr (by rw [hj]; exact hgm2))
            have ho9 := ((hrow k hlt).fr qy (fun _ _ h => h)).fr hfm (fun j hj e => by have := hAk j hj; omega)
            exact ⟨hf9, ho9, .inl ⟨rfl, rfl⟩, ho9⟩
           have hFk : ¬ inA (hom (A k) (cp k)) b := fun h => h0 b hF ⟨k, hlt, h⟩
           have hcx := (hx0.1.cell (p := ⟨b, o + k, none⟩) hbl hFk).trans hc
           have hnx := fun (w' : World) (A' : Option Addr) (cap' : Nat) (h : AppC wr 3 1 (A k) (N k) (cp k) 64 (mksL mkIL k (N k)) (mksL mkIL (k + m) 64) A' cap' w') =>
            FlX.next hx0 (Fr.refl _ _) (by omega) (zaZ hmkl _ _) (Nat.le_refl _) (zcD hmkl _ _ _ (Nat.le_refl _)) hAk h
           have hXo := hx0.2.1
           have hml : (mksL mkIL (k + m) 64).length = 64 * 1 := zaZ hmkl _ _
           have hcm : ∀ u ∈ mksL mkIL (k + m) 64, u.oneCell' = true := by
            intro u hu
            obtain ⟨l, hl, hu⟩ := List.mem_flatten.1 hu
            obtain ⟨i, _, rfl⟩ := List.mem_map.1 hl
            rw [List.mem_singleton.1 hu]; rfl
           have HCM := Lib.hid hcm
           have HML := Lib.hid hml
           clear hml hc hcm
           obtain ⟨cells2, hgo⟩ := hG.own
           have hng : ∀ j, inA (some ⟨gg, 0, none⟩) j → ¬ inA (hom (A k) (cp k)) j := fun j hj h => by
            rw [(za9 _ _).1 hj] at h
            obtain ⟨cur0, hbg, _⟩ := hgo.blk
            exact (hrow k hlt).offB hbg (by decide) h
           have hfin : ∀ (A' : Option Addr) (cap' : Nat) (w4 : World), AppC wr 3 1 (A k) (N k) (cp k) 64 (mksL mkIL k (N k)) (mksL mkIL (k + m) 64) A' cap' w4 →
             (∃ u, w4.cell? ⟨gg, k, none⟩ = some u) ∧ w4.frozen? ⟨gg, k, none⟩ = false ∧ FlGo mkIL 3 41 1 w m A N cp gg (conB mkIL m N) (.int .i64 ((k : Int) + 1)) (w4.setCell ⟨gg, k, none⟩ (.slice A' (N k + 64) cap')) := fun A' cap' w4 hap => by
            have hx4 := hnx w4 A' cap' hap
            have hgo4 := hgo.fr hx4.1 hng
            exact ⟨hgo4.cellEx (by omega), hgo4.frozenAt k, k + 1, by omega, by go_num, FlG.next (EE := 41) (by decide) (by omega) hG hsz1 hr hfar hlt hx4 rfl⟩
           have HFIN := Lib.hid hfin
           have hsl := hom_.sl
           have HG2 := Lib.hid hG
           have HR2 := Lib.hid hr
           have HX0 := Lib.hid hx0
           obtain ⟨con, hcon⟩ : ∃ con, mksL mkIL k (N k) = con := ⟨_, rfl⟩
           obtain ⟨news, hnews⟩ : ∃ con, mksL mkIL (k + m) 64 = con := ⟨_, rfl⟩
           rw [hcon] at hXo HFIN
           rw [hnews] at hsl HML HCM HFIN
           clear hcon hnews hnx hng hfin hG hr hx0
           have hi0 : (k : Int) < (m : Int) := by omega
           go_wp2_with (at_builtin; refine zcu rfl _ _ _ rfl 8 (.int .i64 0) Tryz.underlying41 zh7 rfl (by decide) rfl hXo rfl hsl HML.out HCM.out (by omega) (by unfold maxLen; omega) (by omega) ?_; intro A' cap' w4 hap; obtain ⟨⟨u, hcu⟩, hfz, hrel9⟩ := HFIN.out A' cap' w4 hap; have HREL := Lib.hid hrel9; clear hrel9)
           go_roundw
           case rel => exact HREL.out
           case measure => simp [intOf]; omega
        ·obtain rfl : m = k := by omega
         go_wp2_with fail
         go_loopw [14] (fun i wx => zbt wo m i wx) (fun i _ => m - (intOf i).toNat)
         case atStart => exact ⟨0, Nat.zero_le _, rfl, Fr.refl _ _⟩
         case round =>
          obtain ⟨k, hk, rfl, hq⟩ := hrel
          obtain ⟨wp, rfl⟩ : ∃ wp : World, wp = wr := ⟨_, rfl⟩
          by_cases hlt : k < m
          ·obtain ⟨X, c', hgc, hgx⟩ := hG.cells hlt
           have hNk := hN k hlt
           have HGX := Lib.hid hgx
           clear hgx
           have hi0 : (k : Int) < (m : Int) := by omega
           have hs5 := hs.fr hfo h0
           obtain ⟨b, o, rfl, hF, hc⟩ := hs5.hdr hlt
           have hcp := (hq.cell (p := ⟨b, o + k, none⟩) (World.block_lt_of_cell? _ _ hc) (fun h => h)).trans hc
           go_wp2_with fail
           go_loopw [15] (fun i wx => zbt wp (N k) i wx) (fun i _ => N k - (intOf i).toNat)
           case atStart => exact ⟨0, Nat.zero_le _, rfl, Fr.refl _ _⟩
           case round =>
            obtain ⟨j, hj, rfl, hq2⟩ := hrel
            have hcr := (hq2.cell (p := ⟨b, o + k, none⟩) (World.block_lt_of_cell? _ _ hcp) (fun h => h)).trans hcp
            by_cases hltj : j < N k
            ·obtain ⟨g, rfl, hcx⟩ := zci (z := 1) (l := mkIL k j) rfl (by omega) HGX.out (zeN hmkl m N k j hltj)
             have hcx2 := zcW hcx (hq.tr hq2)
             have hgc2 := ((hq.tr hq2).cell (p := ⟨gg, k, none⟩) (World.block_lt_of_cell? _ _ hgc) (fun h => h)).trans hgc
             have hmk : ∀ n : za0 wr, _ := fun n => zct n.at_ k j (by omega) (by omega)
             obtain ⟨g2, hA2, hcl⟩ := (hrow.nw (hq.tr hq2)).cell hmkl hlt hltj
             have hMK : mkIL k j = [I64 (mkI k j)] := rfl
             rw [hMK] at hcx2 hcl
             obtain ⟨x, hxx⟩ : ∃ x, mkI k j = x := ⟨_, rfl⟩
             rw [hxx] at hmk hcx2 hcl
             have HMK := Lib.hid hmk
             have d2 := fun (n : za0 wr) => n.cell (show wr.cell? ⟨g, j, none⟩ = some (I64 (x)) by have h := hcx2 0 _ rfl; rwa [Nat.mul_one] at h)
             have d4 := fun (n : za0 wr) => n.cell (show wr.cell? ⟨g2, j, none⟩ = some (I64 (x)) by have h := hcl 0 _ rfl; rwa [Nat.mul_one] at h)
             rw [hA2] at hcr
             have d1 := fun (n : za0 wr) => n.cell hgc2
             have d3 := fun (n : za0 wr) => n.cell hcr
             clear hmk hcx hcx2 hcl hMK hxx hgc hc hcp
             have hi1 : (j : Int) < (N k : Int) + 64 := by omega
             have hi2 : (j : Int) < (N k : Int) := by omega
             have hi6 : decide ((j : Int) < (N k : Int)) = true := decide_eq_true hi2
             have hi7 : decide (j < N k) = true := decide_eq_true hltj
             have hi8 : decide ((j : Int) < (N k : Int) + 64) = true := decide_eq_true hi1
             have hi9 : decide (j < N k + 64) = true := decide_eq_true (by omega)
             go_wp2_with fail
             refine zae (by kernel_rfl) (by kernel_rfl) ?_
             repeat (go_big_quiet_step ((go_at_call 136; exact za0.same (HMK.out _))))
             refine zaj fun w5 q5 => ?_
             clear d1 d2 d3 d4
             go_wp2_with fail
             go_roundw
             case rel => exact ⟨j + 1, by omega, by go_num, hq2.tr q5⟩
             case measure => simp [intOf]; omega
            ·obtain rfl : j = N k := by omega
             go_wp2_with fail
             go_roundw
             case rel => exact ⟨k + 1, by omega, by go_num, hq.tr hq2⟩
             case measure => simp [intOf]; omega
          ·go_wp2_with fail
           go_ret
           exact ⟨rfl, hfo.tr (Nw.on hq)⟩
open Go Go.RowKit
theorem zdV (w : World) (k i : Nat) (hk : k ≤ 1000000000000) (hi : i ≤ 100000000000000) :
  Calls Tryz.prog 93 #[.int .i64 (k : Int), .int .i64 (i : Int)] w fun e w' => e = .returned (B8 (mkB k i)) ∧ w = w' := by
 have h := zee w (k : Int) (i : Int) (by omega) (by omega) (by omega) (by omega)
 rwa [Int.toNat_natCast, Int.toNat_natCast] at h
def mkBL (k i : Nat) : List Value := [B8 (mkB k i)]
theorem zlr (k i : Nat) : (mkBL k i).length = 1 := rfl
theorem zh8 : (Tryz.prog.info? 5).map (fun i => (i.zero, i.size, i.bytes)) = some (some (.int .u8 0), 1, 1) := by kernel_rfl
theorem zmr (w : World) (F0 : Nat → Prop) (B : Option Addr) (c : Nat) (m : Nat) (A : Nat → Option Addr) (N cp : Nat → Nat) (f : Nat → List Value) (hs : Sl w F0 B (hdrs m A N cp)) (hr : zb4 w 5 1 m A N cp f) (hfar : FarC m A cp) (h0 : ∀ b, F0 b → ¬ InC m A cp b)
  (hm : m ≤ 1000000000) (hN : ∀ k, k < m → N k ≤ 100000000000) :
  Calls Tryz.prog 114 #[.slice B m c] w fun e w' => e = .returned (.bool true) ∧ Fr (InC m A cp) w w' := by
 have hmkl := zlr
 go_enter Tryz.func114, Tryz.ntmps114
 go_wp2_with fail
 go_loopw [3] (fun i wr => Fl1o mkBL 5 1 w m A N cp i wr) (fun i _ => m - (intOf i).toNat)
 case atStart => exact ⟨0, Nat.zero_le _, rfl, f, hr, fun _ h => by omega, Fr.refl _ _⟩
 case round =>
  obtain ⟨k, hk, rfl, f1, hr1, hb1, hf1⟩ := hrel
  have HB1 := Lib.hid hb1
  clear hb1
  by_cases hlt : k < m
  ·obtain ⟨b, o, rfl, hF, hc⟩ := (hs.fr hf1 h0).hdr hlt
   have hNk := hN k hlt
   go_wp2_with fail
   go_loopw [4] (fun i wx => Fl1i mkBL 5 1 w m A N cp k i wx) (fun i _ => N k - (intOf i).toNat)
   case atStart => exact ⟨0, f1, Nat.zero_le _, rfl, hr1, HB1.out, (by simp [mksL]), hf1⟩
   case round =>
    obtain ⟨j, f2, hj, rfl, hr2, hb2, ht2, hf2⟩ := hrel
    have HB2 := Lib.hid hb2
    have HT2 := Lib.hid ht2
    clear hb2 ht2 hc
    obtain ⟨b', o', hB, hF', hc⟩ := (hs.fr hf2 h0).hdr hlt
    injection hB with hB
    injection hB with hB1' hB2' _
    subst hB1' hB2'
    by_cases hltj : j < N k
    ·have ho := hr2 k hlt
     obtain ⟨g, hA, hho, o1⟩ := ho.at_ (by have := ho.cap_le.1; omega)
     have hcu5 : ∀ w', Nw wr w' → (∃ u, w'.cell? ⟨g, j, none⟩ = some u) ∧ w'.frozen? ⟨g, j, none⟩ = false := fun w' q => ⟨(o1.fr q (fun _ _ h => h)).cellEx (by omega), (o1.fr q (fun _ _ h => h)).frozenAt j⟩
     have hmk : ∀ n : za0 wr, _ := fun n => zdV n.at_ k j (by omega) (by omega)
     have hnx : ∀ w1, Nw wr w1 → ∀ w', w' = w1.setCell ⟨g, j, none⟩ (B8 (mkB k j)) → Fl1i mkBL 5 1 w m A N cp k (.int .i64 ((j : Int) + 1)) w' := fun w1 q w' h => Fl1i.next hmkl hfar hlt hltj (hr2.nw q) HB2.out HT2.out (hf2.tr (Nw.on q)) hA (by rw [h, Nat.mul_one]; rfl)
     obtain ⟨x, hxx⟩ : ∃ x, mkB k j = x := ⟨_, rfl⟩
     rw [hxx] at hmk hnx
     have HCU := Lib.hid hcu5
     have HMK := Lib.hid hmk
     have HNX := Lib.hid hnx
     clear hcu5 hmk hnx o1 ho hxx
     rw [hA] at hc
     have hi0 : (j : Int) < (N k : Int) := by omega
     have hi1 : decide ((j : Int) < (N k : Int)) = true := decide_eq_true hi0
     have hi2 : decide (j < N k) = true := decide_eq_true hltj
     have d1 := fun (n : za0 wr) => n.cell hc
     go_wp2_with fail
     refine zce 9 (by kernel_rfl) (by kernel_rfl) ?_
     simp only [List.take_succ_cons, List.take_zero, List.drop_succ_cons, List.drop_zero]
     repeat (go_big_quiet_step ((go_at_call 93; exact za0.same (HMK.out _))))
     refine wpQuiet_nil ?_
     intro w5 q5
     obtain ⟨⟨u, hcu⟩, hfz⟩ := HCU.out w5 q5
     go_wp2_with fail
     refine ⟨HNX.out w5 q5 _ rfl, ?_⟩
     simp [intOf]
     omega
    ·have hfk : f2 k = mksL mkBL k (N k) := by
      have h1 := HT2.out
      have h2 := (hr2 k hlt).len
      rwa [List.take_of_length_le (by rw [h2]; exact Nat.mul_le_mul_right _ (by omega)), show j = N k by omega] at h1
     have HFK := Lib.hid hfk
     clear hfk
     obtain rfl : j = N k := by omega
     go_wp2_with fail
     go_roundw
     case rel =>
      refine ⟨k + 1, by omega, by go_num, f2, hr2, fun i hi => ?_, hf2⟩
      by_cases e : i = k
      ·subst e; exact HFK.out
      ·exact HB2.out i (by omega)
     case measure => simp [intOf]; omega
  ·obtain rfl : m = k := by omega
   have hr2 : zb4 wr 5 1 m A N cp (fun j => mksL mkBL j (N j)) := hr1.congr HB1.out
   have hsz1 := hf1.size
   clear hr1 HB1
   go_wp2_with (at_make; refine ze6 rfl _ _ _ rfl 24 (.slice none 0 0) Tryz.underlying76 zjf rfl .i64 .i64 _ _ m rfl rfl rfl rfl (by omega) (by unfold maxLen; omega) ?_; intro w2 ho2 q2)
   have hf2 := hf1.tr (Nw.on q2)
   have hr3 := hr2.nw q2
   have hApG : FlG mkBL 5 48 1 w m A N cp wr.heap.size (conA mkBL N) 0 w2 := ⟨_, fun _ => none, fun _ => 0, ho2, fun _ h => by omega, fun _ h => by omega, fun _ h => by omega, hr3, hf2⟩
   obtain ⟨gg, hgg⟩ : ∃ gg, wr.heap.size = gg := ⟨_, rfl⟩
   rw [hgg] at hApG hsz1 ⊢
   clear hgg hr2 hf2 hr3 ho2 q2 hf1
   go_loopw [6] (fun i wx => FlGo mkBL 5 48 1 w m A N cp gg (conA mkBL N) i wx) (fun i _ => m - (intOf i).toNat)
   case atStart => exact ⟨0, Nat.zero_le _, rfl, hApG⟩
   case round =>
    clear hApG
    obtain ⟨k, hk, rfl, hG⟩ := hrel
    obtain ⟨wo, rfl⟩ : ∃ wo : World, wo = wr := ⟨_, rfl⟩
    have hrow := hG.rows
    have hfo := hG.fr
    by_cases hlt : k < m
    ·obtain ⟨b, o, rfl, hF, hc⟩ := (hs.fr hfo h0).hdr hlt
     have hNk := hN k hlt
     have hAk : ∀ b, inA (hom (A k) (cp k)) b → b < wo.heap.size := fun b hb => (hrow k hlt).lt b hb
     have hFk : ¬ inA (hom (A k) (cp k)) b := fun h => h0 b hF ⟨k, hlt, h⟩
     have hbl := World.block_lt_of_cell? _ _ hc
     go_wp2_with fail
     go_loopw [7, 8] (fun v i wx => FlXi mkBL 5 1 A N cp k wo v i wx) (fun _ i _ => 64 - (intOf i).toNat)
     case atStart => exact ⟨0, A k, cp k, by omega, rfl, rfl, Fr.refl _ _, by simpa using hrow k hlt, .inl ⟨rfl, rfl⟩, hrow k hlt⟩
     case round =>
      obtain ⟨j, X, c', hj, rfl, rfl, hX⟩ := hrel
      have hcx := (hX.1.cell (p := ⟨b, o + k, none⟩) hbl hFk).trans hc
      by_cases hltj : j < 64
      ·have hmk := fun w => zdV w k (N k + j) (by omega) (by omega)
       have hju : (((N k + j : Nat)) : Int) = (N k : Int) + (j : Int) := by omega
       rw [hju] at hmk
       have hnx := fun (w1 w' : World) (A' : Option Addr) (cap' : Nat) (q1 : Nw wr w1) (h : AppC w1 5 1 X (N k + j) c' 1 (mksL mkBL k (N k + j)) ([B8 (mkB k (N k + j))]) A' cap' w') =>
        FlX.next hX q1 (by omega) (zaZ hmkl _ _) (by omega) (zcD hmkl _ _ _ (by omega)) hAk h
       have hnx2 : ∀ (w1 w' : World) (A' : Option Addr) (cap' : Nat), Nw wr w1 → AppC w1 5 1 X (N k + j) c' 1 (mksL mkBL k (N k + j)) ([B8 (mkB k (N k + j))]) A' cap' w' → FlXi mkBL 5 1 A N cp k wo (.slice A' (N k + j + 1) cap') (.int .i64 ((j : Int) + 1)) w' := fun w1 w' A' cap' q1 h =>
        ⟨j + 1, A', cap', by omega, by go_num, rfl, by have := hnx w1 w' A' cap' q1 h; have e : mksL mkBL k (N k + (j + 1)) = mksL mkBL k (N k + j) ++ [B8 (mkB k (N k + j))] := zcU _ _ _; rw [e]; exact this⟩
       have hXo := hX.2.1
       have hcm : ∀ u ∈ [B8 (mkB k (N k + j))], u.oneCell' = true := by intro u hu; rw [List.mem_singleton.1 hu]; rfl
       have hcs : (mksL mkBL k (N k + j)).length = (N k + j) * 1 := zaZ hmkl _ _
       generalize mksL mkBL k (N k + j) = con at hnx2 hXo hcs
       obtain ⟨x, hxx⟩ : ∃ x, mkB k (N k + j) = x := ⟨_, rfl⟩
       rw [hxx] at hmk hnx2 hcm
       have hlen : [B8 (x)].length = 1 * 1 := rfl
       have HMK := Lib.hid hmk
       have HNX := Lib.hid hnx2
       have HCS := Lib.hid hcs
       have HX := Lib.hid hX
       clear hmk hnx hnx2 hju hc hcs hX hxx
       go_wp2_with fail
       refine (HMK.out _).mono ?_
       rintro e w3 ⟨rfl, rfl⟩
       have q3 : Nw wr wr := Fr.refl (fun _ => False) _
       have sln := zaI wr 5 [B8 (x)] _ rfl
       have qa : Nw wr (wr.alloc (.cells #[B8 (x)] 5)) := (Fr.refl (fun _ => False) _).alloc _
       have hoa := hXo.nw qa
       obtain ⟨V2, hV2⟩ : ∃ V, V = wr.alloc (.cells #[B8 (x)] 5) := ⟨_, rfl⟩
       rw [← hV2] at sln qa hoa
       have HV2 := Lib.hid hV2
       clear hV2
       go_wp2_with (at_builtin; rw [← HV2.out]; refine zcu rfl _ _ _ rfl 1 (.int .u8 0) Tryz.underlying48 zh8 rfl (by decide) rfl hoa rfl sln hlen hcm (by omega) (by unfold maxLen; omega) (by omega) ?_; intro A' cap' w4 hap)
       go_roundw
       case rel => exact HNX.out _ _ _ _ (q3.tr qa) hap
       case measure => simp [intOf]; omega
      ·obtain rfl : j = 64 := by omega
       obtain ⟨cells, hgo⟩ := hG.own
       have hng : ¬ inA (hom (A k) (cp k)) gg := fun h => by
        obtain ⟨cur0, hbg, _⟩ := hgo.blk
        exact (hrow k hlt).offB hbg (by decide) h
       have hgo2 := hgo.fr hX.1 (fun j hj h => by rw [(za9 _ _).1 hj] at h; exact hng h)
       obtain ⟨u, hcu⟩ : ∃ u, wr.cell? ⟨gg, k, none⟩ = some u := hgo2.cellEx (by omega)
       have hfz := hgo2.frozenAt k
       have hnx := fun (w' : World) (h : w' = _) => FlG.next (w' := w') (EE := 48) (by decide) (by omega) hG hsz1 hr hfar hlt hX h
       have HNX := Lib.hid hnx
       have hi0 : (k : Int) < (m : Int) := by omega
       have HX := Lib.hid hX
       have HGG := Lib.hid hG
       clear hnx hgo hgo2 hc hcx hX hG
       go_wp2_with fail
       go_roundw
       case rel => exact ⟨k + 1, by omega, by go_num, HNX.out _ rfl⟩
       case measure => simp [intOf]; omega
    ·obtain rfl : m = k := by omega
     go_wp2_with fail
     go_loopw [9] (fun i wx => zbt wo m i wx) (fun i _ => m - (intOf i).toNat)
     case atStart => exact ⟨0, Nat.zero_le _, rfl, Fr.refl _ _⟩
     case round =>
      obtain ⟨k, hk, rfl, hq⟩ := hrel
      obtain ⟨wp, rfl⟩ : ∃ wp : World, wp = wr := ⟨_, rfl⟩
      by_cases hlt : k < m
      ·obtain ⟨X, c', hgc, hgx⟩ := hG.cells hlt
       have hNk := hN k hlt
       have hgc2 := (hq.cell (p := ⟨gg, k, none⟩) (World.block_lt_of_cell? _ _ hgc) (fun h => h)).trans hgc
       have HGX := Lib.hid hgx
       clear hgc hgx
       have hi0 : (k : Int) < (m : Int) := by omega
       go_wp2_with fail
       go_loopw [10] (fun i wx => zbt wp (N k + 64) i wx) (fun i _ => N k + 64 - (intOf i).toNat)
       case atStart => exact ⟨0, Nat.zero_le _, rfl, Fr.refl _ _⟩
       case round =>
        obtain ⟨j, hj, rfl, hq2⟩ := hrel
        have hgc3 := (hq2.cell (p := ⟨gg, k, none⟩) (World.block_lt_of_cell? _ _ hgc2) (fun h => h)).trans hgc2
        by_cases hltj : j < N k + 64
        ·obtain ⟨g, rfl, hcx⟩ := zci (z := 1) (l := mkBL k j) rfl (by omega) HGX.out (zfx hmkl N k j hltj)
         have hcx2 := zcW hcx (hq.tr hq2)
         obtain ⟨b, o, rfl, hF, hc⟩ := ((hs.fr hfo h0).fr (hq.tr hq2) (fun _ _ h => h)).hdr hlt
         have hmk : ∀ n : za0 wr, _ := fun n => zdV n.at_ k j (by omega) (by omega)
         have hlk := fun (h : j < N k) => (hrow.nw (hq.tr hq2)).cell hmkl hlt h
         have hMK : mkBL k j = [B8 (mkB k j)] := rfl
         rw [hMK] at hcx2 hlk
         obtain ⟨x, hxx⟩ : ∃ x, mkB k j = x := ⟨_, rfl⟩
         rw [hxx] at hmk hcx2 hlk
         have HMK := Lib.hid hmk
         have HLK := Lib.hid hlk
         have d2 := fun (n : za0 wr) => n.cell (show wr.cell? ⟨g, j, none⟩ = some (B8 (x)) by have h := hcx2 0 _ rfl; rwa [Nat.mul_one] at h)
         clear hmk hcx hcx2 hlk hMK hxx
         have hi1 : (j : Int) < (N k : Int) + 64 := by omega
         have hi4 : decide ((j : Int) < (N k : Int) + 64) = true := decide_eq_true hi1
         have hi5 : decide (j < N k + 64) = true := decide_eq_true hltj
         have d1 := fun (n : za0 wr) => n.cell hgc3
         have d3 := fun (n : za0 wr) => n.cell hc
         by_cases hjk : j < N k
         ·obtain ⟨g2, hA2, hcl⟩ := HLK.out hjk
          rw [hA2] at d3
          have d4 := fun (n : za0 wr) => n.cell (show wr.cell? ⟨g2, j, none⟩ = some (B8 (x)) by have h := hcl 0 _ rfl; rwa [Nat.mul_one] at h)
          have hi2 : (j : Int) < (N k : Int) := by omega
          have hi6 : decide ((j : Int) < (N k : Int)) = true := decide_eq_true hi2
          have hi7 : decide (j < N k) = true := decide_eq_true hjk
          clear hcl hc HLK
          go_wp2_with fail
          refine zae (by kernel_rfl) (by kernel_rfl) ?_
          repeat (go_big_quiet_step ((go_at_call 93; exact za0.same (HMK.out _))))
          refine zaj fun w5 q5 => ?_
          clear d1 d2 d3
          go_wp2_with fail
          go_roundw
          case rel => exact ⟨j + 1, by omega, by go_num, hq2.tr q5⟩
          case measure => simp [intOf]; omega
         ·have hi2 : decide ((j : Int) < (N k : Int)) = false := decide_eq_false (by omega)
          have hi3 : decide (j < N k) = false := decide_eq_false (by omega)
          clear hc HLK
          go_wp2_with fail
          refine zae (by kernel_rfl) (by kernel_rfl) ?_
          repeat (go_big_quiet_step ((go_at_call 93; exact za0.same (HMK.out _))))
          refine zaj fun w5 q5 => ?_
          clear d1 d2 d3
          go_wp2_with fail
          go_roundw
          case rel => exact ⟨j + 1, by omega, by go_num, hq2.tr q5⟩
          case measure => simp [intOf]; omega
        ·obtain rfl : j = N k + 64 := by omega
         go_wp2_with fail
         go_roundw
         case rel => exact ⟨k + 1, by omega, by go_num, hq.tr hq2⟩
         case measure => simp [intOf]; omega
      ·obtain rfl : m = k := by omega
       obtain ⟨cells, hgo⟩ := hG.own
       have hgo2 := hgo.fr hq (fun _ _ h => h)
       have hrow2 := hrow.nw hq
       have hfo2 := hfo.tr (Nw.on hq)
       have hA2 : FlG mkBL 5 48 1 w m A N cp gg (conB mkBL m N) 0 wp := ⟨cells, fun _ => none, fun _ => 0, hgo2, fun _ h => by omega, fun _ h => by omega, fun _ h => by omega, hrow2, hfo2⟩
       clear hG hrow hfo hgo hgo2 hrow2 hfo2 hq
       go_wp2_with fail
       go_loopw [11] (fun i wx => FlGo mkBL 5 48 1 w m A N cp gg (conB mkBL m N) i wx) (fun i _ => m - (intOf i).toNat)
       case atStart => exact ⟨0, Nat.zero_le _, rfl, hA2⟩
       case round =>
        clear hA2
        obtain ⟨k, hk, rfl, hG⟩ := hrel
        obtain ⟨wo, rfl⟩ : ∃ wo : World, wo = wr := ⟨_, rfl⟩
        have hrow := hG.rows
        have hfo := hG.fr
        by_cases hlt : k < m
        ·obtain ⟨b, o, rfl, hF, hc⟩ := (hs.fr hfo h0).hdr hlt
         have hNk := hN k hlt
         have hAk : ∀ b, inA (hom (A k) (cp k)) b → b < wo.heap.size := fun b hb => (hrow k hlt).lt b hb
         have hbl := World.block_lt_of_cell? _ _ hc
         go_wp2_with (at_make; refine zeP rfl _ _ _ rfl 1 (.int .u8 0) Tryz.underlying48 zh8 .i64 .i64 _ _ 64 rfl rfl rfl rfl (by omega) (by unfold maxLen; omega) ?_; intro wy csy hoy qy)
         obtain ⟨gm, hgm⟩ : ∃ gm, wo.heap.size = gm := ⟨_, rfl⟩
         have hgm2 : wo.heap.size ≤ gm := Nat.le_of_eq hgm
         rw [hgm] at hoy ⊢
         clear hgm
         have HOY := Lib.hid hoy
         clear hoy
         go_wp2_with fail
         go_loopw [13] (fun i wx => zcQ mkBL 5 1 (k + m) gm wy i wx) (fun i _ => 64 - (intOf i).toNat)
         case atStart => exact ⟨0, csy, by omega, rfl, HOY.out, (by simp [mksL]), Fr.refl _ _⟩
         case round =>
          obtain ⟨j, cs, hj, rfl, hom_, ht, hfm⟩ := hrel
          have HT := Lib.hid ht
          clear ht HOY
          have hcl : cs.length = 64 * 1 := hom_.1
          have HCL := Lib.hid hcl
          clear hcl
          by_cases hltj : j < 64
          ·have hmk := fun w => zdV w (k + m) j (by omega) (by omega)
           have hju : ((k + m : Nat) : Int) = (k : Int) + (m : Int) := by omega
           rw [hju] at hmk
           have hnx : ∀ w', w' = wr.setCell ⟨gm, j, none⟩ (B8 (mkB (k + m) j)) → zcQ mkBL 5 1 (k + m) gm wy (.int .i64 ((j : Int) + 1)) w' := fun w' h => zcQ.next (w' := w') hmkl hom_ HT.out hfm hltj (by rw [h, Nat.mul_one]; rfl)
           obtain ⟨x, hxx⟩ : ∃ x, mkB (k + m) j = x := ⟨_, rfl⟩
           rw [hxx] at hmk hnx
           have HMK := Lib.hid hmk
           have HNX := Lib.hid hnx
           obtain ⟨u, hcu⟩ : ∃ u, wr.cell? ⟨gm, j, none⟩ = some u := hom_.cellEx (by omega)
           have hfz := hom_.frozenAt j
           clear hmk hnx hju hxx
           have hi0 : (j : Int) < 64 := by omega
           have hi1 : decide ((j : Int) < 64) = true := decide_eq_true hi0
           have hi2 : decide (j < 64) = true := decide_eq_true hltj
           go_wp2_with (go_at_call 93; refine (HMK.out _).mono ?_; rintro e w3 ⟨rfl, rfl⟩)
           refine ⟨HNX.out _ rfl, ?_⟩
           simp [intOf]
           omega
          ·obtain rfl : j = 64 := by omega
           have hcs : cs = mksL mkBL (k + m) 64 := by
            have := HT.out
            rwa [List.take_of_length_le (by rw [HCL.out]; omega)] at this
           subst hcs
           clear HT HCL
           have hx0 : FlX mkBL 5 1 A N cp k wo (mksL mkBL k (N k)) (A k) (N k) (cp k) wr := by
            have hf9 : Fr (inA (hom (A k) (cp k))) wo wr := (Nw.on qy).trans hfm (fun j hj => .inr (by rw [hj]; exact hgm2))
            have ho9 := ((hrow k hlt).fr qy (fun _ _ h => h)).fr hfm (fun j hj e => by have := hAk j hj; omega)
            exact ⟨hf9, ho9, .inl ⟨rfl, rfl⟩, ho9⟩
           have hFk : ¬ inA (hom (A k) (cp k)) b := fun h => h0 b hF ⟨k, hlt, h⟩
           have hcx := (hx0.1.cell (p := ⟨b, o + k, none⟩) hbl hFk).trans hc
           have hnx := fun (w' : World) (A' : Option Addr) (cap' : Nat) (h : AppC wr 5 1 (A k) (N k) (cp k) 64 (mksL mkBL k (N k)) (mksL mkBL (k + m) 64) A' cap' w') =>
            FlX.next hx0 (Fr.refl _ _) (by omega) (zaZ hmkl _ _) (Nat.le_refl _) (zcD hmkl _ _ _ (Nat.le_refl _)) hAk h
           have hXo := hx0.2.1
           have hml : (mksL mkBL (k + m) 64).length = 64 * 1 := zaZ hmkl _ _
           have hcm : ∀ u ∈ mksL mkBL (k + m) 64, u.oneCell' = true := by
            intro u hu
            obtain ⟨l, hl, hu⟩ := List.mem_flatten.1 hu
            obtain ⟨i, _, rfl⟩ := List.mem_map.1 hl
            rw [List.mem_singleton.1 hu]; rfl
           have HCM := Lib.hid hcm
           have HML := Lib.hid hml
           clear hml hc hcm
           obtain ⟨cells2, hgo⟩ := hG.own
           have hng : ∀ j, inA (some ⟨gg, 0, none⟩) j → ¬ inA (hom (A k) (cp k)) j := fun j hj h => by
            rw [(za9 _ _).1 hj] at h
            obtain ⟨cur0, hbg, _⟩ := hgo.blk
            exact (hrow k hlt).offB hbg (by decide) h
           have hfin : ∀ (A' : Option Addr) (cap' : Nat) (w4 : World), AppC wr 5 1 (A k) (N k) (cp k) 64 (mksL mkBL k (N k)) (mksL mkBL (k + m) 64) A' cap' w4 →
             (∃ u, w4.cell? ⟨gg, k, none⟩ = some u) ∧ w4.frozen? ⟨gg, k, none⟩ = false ∧ FlGo mkBL 5 48 1 w m A N cp gg (conB mkBL m N) (.int .i64 ((k : Int) + 1)) (w4.setCell ⟨gg, k, none⟩ (.slice A' (N k + 64) cap')) := fun A' cap' w4 hap => by
            have hx4 := hnx w4 A' cap' hap
            have hgo4 := hgo.fr hx4.1 hng
            exact ⟨hgo4.cellEx (by omega), hgo4.frozenAt k, k + 1, by omega, by go_num, FlG.next (EE := 48) (by decide) (by omega) hG hsz1 hr hfar hlt hx4 rfl⟩
           have HFIN := Lib.hid hfin
           have hsl := hom_.sl
           have HG2 := Lib.hid hG
           have HR2 := Lib.hid hr
           have HX0 := Lib.hid hx0
           obtain ⟨con, hcon⟩ : ∃ con, mksL mkBL k (N k) = con := ⟨_, rfl⟩
           obtain ⟨news, hnews⟩ : ∃ con, mksL mkBL (k + m) 64 = con := ⟨_, rfl⟩
           rw [hcon] at hXo HFIN
           rw [hnews] at hsl HML HCM HFIN
           clear hcon hnews hnx hng hfin hG hr hx0
           have hi0 : (k : Int) < (m : Int) := by omega
           go_wp2_with (at_builtin; refine zcu rfl _ _ _ rfl 1 (.int .u8 0) Tryz.underlying48 zh8 rfl (by decide) rfl hXo rfl hsl HML.out HCM.out (by omega) (by unfold maxLen; omega) (by omega) ?_; intro A' cap' w4 hap; obtain ⟨⟨u, hcu⟩, hfz, hrel9⟩ := HFIN.out A' cap' w4 hap; have HREL := Lib.hid hrel9; clear hrel9)
           go_roundw
           case rel => exact HREL.out
           case measure => simp [intOf]; omega
        ·obtain rfl : m = k := by omega
         go_wp2_with fail
         go_loopw [14] (fun i wx => zbt wo m i wx) (fun i _ => m - (intOf i).toNat)
         case atStart => exact ⟨0, Nat.zero_le _, rfl, Fr.refl _ _⟩
         case round =>
          obtain ⟨k, hk, rfl, hq⟩ := hrel
          obtain ⟨wp, rfl⟩ : ∃ wp : World, wp = wr := ⟨_, rfl⟩
          by_cases hlt : k < m
          ·obtain ⟨X, c', hgc, hgx⟩ := hG.cells hlt
           have hNk := hN k hlt
           have HGX := Lib.hid hgx
           clear hgx
           have hi0 : (k : Int) < (m : Int) := by omega
           have hs5 := hs.fr hfo h0
           obtain ⟨b, o, rfl, hF, hc⟩ := hs5.hdr hlt
           have hcp := (hq.cell (p := ⟨b, o + k, none⟩) (World.block_lt_of_cell? _ _ hc) (fun h => h)).trans hc
           go_wp2_with fail
           go_loopw [15] (fun i wx => zbt wp (N k) i wx) (fun i _ => N k - (intOf i).toNat)
           case atStart => exact ⟨0, Nat.zero_le _, rfl, Fr.refl _ _⟩
           case round =>
            obtain ⟨j, hj, rfl, hq2⟩ := hrel
            have hcr := (hq2.cell (p := ⟨b, o + k, none⟩) (World.block_lt_of_cell? _ _ hcp) (fun h => h)).trans hcp
            by_cases hltj : j < N k
            ·obtain ⟨g, rfl, hcx⟩ := zci (z := 1) (l := mkBL k j) rfl (by omega) HGX.out (zeN hmkl m N k j hltj)
             have hcx2 := zcW hcx (hq.tr hq2)
             have hgc2 := ((hq.tr hq2).cell (p := ⟨gg, k, none⟩) (World.block_lt_of_cell? _ _ hgc) (fun h => h)).trans hgc
             have hmk : ∀ n : za0 wr, _ := fun n => zdV n.at_ k j (by omega) (by omega)
             obtain ⟨g2, hA2, hcl⟩ := (hrow.nw (hq.tr hq2)).cell hmkl hlt hltj
             have hMK : mkBL k j = [B8 (mkB k j)] := rfl
             rw [hMK] at hcx2 hcl
             obtain ⟨x, hxx⟩ : ∃ x, mkB k j = x := ⟨_, rfl⟩
             rw [hxx] at hmk hcx2 hcl
             have HMK := Lib.hid hmk
             have d2 := fun (n : za0 wr) => n.cell (show wr.cell? ⟨g, j, none⟩ = some (B8 (x)) by have h := hcx2 0 _ rfl; rwa [Nat.mul_one] at h)
             have d4 := fun (n : za0 wr) => n.cell (show wr.cell? ⟨g2, j, none⟩ = some (B8 (x)) by have h := hcl 0 _ rfl; rwa [Nat.mul_one] at h)
             rw [hA2] at hcr
             have d1 := fun (n : za0 wr) => n.cell hgc2
             have d3 := fun (n : za0 wr) => n.cell hcr
             clear hmk hcx hcx2 hcl hMK hxx hgc hc hcp
             have hi1 : (j : Int) < (N k : Int) + 64 := by omega
             have hi2 : (j : Int) < (N k : Int) := by omega
             have hi6 : decide ((j : Int) < (N k : Int)) = true := decide_eq_true hi2
             have hi7 : decide (j < N k) = true := decide_eq_true hltj
             have hi8 : decide ((j : Int) < (N k : Int) + 64) = true := decide_eq_true hi1
             have hi9 : decide (j < N k + 64) = true := decide_eq_true (by omega)
             go_wp2_with fail
             refine zae (by kernel_rfl) (by kernel_rfl) ?_
             repeat (go_big_quiet_step ((go_at_call 93; exact za0.same (HMK.out _))))
             refine zaj fun w5 q5 => ?_
             clear d1 d2 d3 d4
             go_wp2_with fail
             go_roundw
             case rel => exact ⟨j + 1, by omega, by go_num, hq2.tr q5⟩
             case measure => simp [intOf]; omega
            ·obtain rfl : j = N k := by omega
             go_wp2_with fail
             go_roundw
             case rel => exact ⟨k + 1, by omega, by go_num, hq.tr hq2⟩
             case measure => simp [intOf]; omega
          ·go_wp2_with fail
           go_ret
           exact ⟨rfl, hfo.tr (Nw.on hq)⟩
end Go.Proofs.YtippdjaakcgeoaaGreat
