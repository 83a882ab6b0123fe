/- WireReads: the walk. -/
import Derived.Test.YtoapobgnfgfobaaL02R
import Derived.Test.YtoapobgnfgfobaaPsB
import Derived.Deep.DeepCutAuto
namespace Go.Proofs.Ytoapobgnfgfobaa
open Go Go.RowKit

set_option maxRecDepth 100000 in
set_option maxHeartbeats 4000000 in
theorem wreads_walk (w : World) (A0 A1 : Option Addr) (c0 c1 : Nat) (bs : List UInt8) (cs : List Nm) (S0 : Sl w (· < w.heap.size) A0 (bs.map B8)) (S1 : Sl w (· < w.heap.size) A1 (nmCells cs)) (hl0 : bs.length ≤ 140737488351232) (hl1 : cs.length ≤ 140737488351232) :
    Calls Try.prog 7 #[.slice A0 bs.length c0, .slice A1 cs.length c1] w fun e w' => e = .returned (.bool true) ∧ Nw w w' := by
  by_cases hgt : 20000 < bs.length ∨ 1000 < cs.length
  · by_cases h1 : 20000 < bs.length
    · go_enter Try.func7, Try.ntmps7
      go_wp2_with fail
      refine (awake02 _).mono ?_
      rintro e w1 ⟨rfl, q1⟩
      go_wp2_with fail
      go_ret
      exact ⟨rfl, q1⟩
    · have h2 : 1000 < cs.length := by omega
      go_enter Try.func7, Try.ntmps7
      go_wp2_with fail
      refine (awake02 _).mono ?_
      rintro e w1 ⟨rfl, q1⟩
      go_wp2_with fail
      go_ret
      exact ⟨rfl, q1⟩
  · have hb2 : bs.length ≤ 20000 := by omega
    have hc2 : cs.length ≤ 1000 := by omega
    clear hgt
    go_enter Try.func7, Try.ntmps7
    go_wp2_with fail
    refine (lent_u8 _ _ _ _ bs S0 (by omega)).mono ?_
    rintro e w1 ⟨gl, rfl, hl, q1, hgl⟩
    go_wp2_with fail
    refine (newReader_any _ _ _ _ bs hl.row (by omega)).mono ?_
    rintro e w2 ⟨gr, F, rfl, ir, q2, hgr, hF⟩
    have hl2 := hl.fr q2 (fun _ _ h => h)
    have q3 := q1.tr q2
    have z1 := Own.lt hl gl ((inA_some _ _).2 rfl)
    have hir := ir.lt
    have hFl := ir.out.2
    go_wp2_with fail
    refine (over_u8 _ gl bs hl2 (by omega)).mono ?_
    rintro e w3 ⟨rfl, f3⟩
    have ir3 := ir.fr f3 (by omega) (fun k hk e => by have := hF k hk; omega)
    have q4 : Nw w w3 := q3.new f3 (fun b h => by omega)
    have f3size := f3.size
    clear hl hl2 ir q1 q2 q3
    go_wp2_with fail
    refine (copy_u8 _ _ _ _ bs (S0.fr q4 (fun _ _ h => h)) (by omega)).mono ?_
    rintro e w4 ⟨Am, cm, rfl, om, q5, nm⟩
    have ir4 := ir3.fr q5 (fun h => h) (fun _ _ h => h)
    have q6 := q4.tr q5
    go_wp2_with fail
    have z4 := om.lt
    have zl := om.cap_le
    have z5 := q5.size
    have om' := om.alloc (.cells #[.slice Am bs.length cm, .bool false] 65)
    have ir5 := ir4.fr (S := fun _ => False) ((Fr.refl _ w4).alloc (.cells #[.slice Am bs.length cm, .bool false] 65)) (fun h => h) (fun _ _ h => h)
    have q7 : Nw w (w4.alloc (.cells #[.slice Am bs.length cm, .bool false] 65)) := q6.alloc _
    have zz := q6.size
    obtain ⟨gm, hgm⟩ : ∃ gm, w4.heap.size = gm := ⟨_, rfl⟩
    have im5 : IsRR (w4.alloc (.cells #[.slice Am bs.length cm, .bool false] 65)) (inA Am) gm (some bs) := by
      rw [← hgm]
      exact ⟨Am, cm, Blk.new _ _ _, zl.1, zl.2, om'.sl, fun h => by have := z4 _ h; omega, fun k hk => by have := z4 k hk; simp; omega⟩
    rw [hgm] at z4 z5 zz ⊢
    have hsz : (w4.alloc (.cells #[.slice Am bs.length cm, .bool false] 65)).heap.size = gm + 1 := by rw [World.size_alloc, hgm]
    clear hgm om om' ir4 ir3 q4 q5 q6 f3
    generalize w4.alloc (.cells #[.slice Am bs.length cm, .bool false] 65) = wS at ir5 im5 q7 hsz ⊢
    have HSZ := Lib.hid hsz
    have hzS : gm < wS.heap.size := by omega
    have hSb := q7.size
    clear hsz
    have hgrm : gr < gm := by have := ir5.lt; have := f3size; omega
    go_loopw [8, 9] (fun t8 i wr => RdsRel wS F (inA Am) gr gm cs.length t8 i wr) (fun _ i _ => cs.length - (intOf i).toNat)
    case atStart => exact ⟨0, some bs, 0, Nat.zero_le _, rfl, Nat.le_refl _, hb2, fun _ => none, fun _ => 0, fun _ => 0, fun _ => [], none, 0, rfl, Own.nil _ _ _, fun k h => by omega, fun i j h => by omega, fun j h => by omega, fun b h => (inA_none b h).elim, fun b ⟨k, h, _⟩ => by omega, ir5, im5, Fr.refl _ _⟩
    case round =>
      clear ir5 im5
      obtain ⟨k, st, m, hk, rfl, hmk, hleft, A, N, cp, f, Br, cr, rfl, ho, hrw, hfar, hNs, hBr, hIn, ir, im, hf⟩ := hrel
      by_cases hlt : k < cs.length
      · obtain ⟨b, o, rfl, hbF, hc1, hc2⟩ := ((S1.fr q7 (fun _ _ h => h)).fr hf (fun j (h1 : j < w.heap.size) h2 => by omega)).name hlt
        generalize cs[k].1 = kind at hc1
        generalize cs[k].2 = most at hc2
        have hi0 : (k : Int) < (cs.length : Int) := by omega
        have hgrS : gr < wS.heap.size := by omega
        have hat : RdsAt wS F (inA Am) gr gm (.slice Br m cr) st m wr := ⟨A, N, cp, f, Br, cr, rfl, ho, hrw, hfar, hNs, hBr, hIn, ir, im, hf⟩
        have qa : Nw wr (wr.alloc (.cells #[I64 kind, I64 most] 85)) := (Fr.refl _ wr).alloc _
        have qa : Nw wr (wr.alloc (.cells #[I64 kind, I64 most] 85)) := (Fr.refl _ wr).alloc _
        have qa : Nw wr (wr.alloc (.cells #[I64 kind, I64 most] 85)) := (Fr.refl _ wr).alloc _
        have qa : Nw wr (wr.alloc (.cells #[I64 kind, I64 most] 85)) := (Fr.refl _ wr).alloc _
        have qa : Nw wr (wr.alloc (.cells #[I64 kind, I64 most] 85)) := (Fr.refl _ wr).alloc _
        have qa : Nw wr (wr.alloc (.cells #[I64 kind, I64 most] 85)) := (Fr.refl _ wr).alloc _
        have q0 : Nw wr (wr.alloc (.cells #[I64 kind, I64 most] 85)).drew := ((Fr.refl _ wr).alloc _).drew
        have ira := ir.fr qa (fun h => h) (fun _ _ h => h)
        have ima := im.fr qa (fun h => h) (fun _ _ h => h)
        have ir0 := ir.fr q0 (fun h => h) (fun _ _ h => h)
        have im0 := im.fr q0 (fun h => h) (fun _ _ h => h)
        have hrl := ir.lt
        have hml := im.lt
        have hgne : gr ≠ gm := by omega
        have hle3 : rdLeft st ≤ 1000000000000 := by omega
        have hcell : ∀ W0 v, W0.cell? ⟨wr.heap.size, 1, none⟩ = some (I64 most) → Fr (fun b => b = gr) W0 v → v.cell? ⟨wr.heap.size, 1, none⟩ = some (I64 most) := by
          intro W0 v hc h
          have hn : wr.heap.size ≠ gr := by omega
          rw [h.cell (p := ⟨wr.heap.size, 1, none⟩) (World.block_lt_of_cell? _ _ hc) hn]
          exact hc
        have hcell2 : ∀ v v', Fr (fun b => b = gm) v v' → v.cell? ⟨wr.heap.size, 1, none⟩ = some (I64 most) → v'.cell? ⟨wr.heap.size, 1, none⟩ = some (I64 most) := by
          intro v v' h hc
          have hn : wr.heap.size ≠ gm := by omega
          rw [h.cell (p := ⟨wr.heap.size, 1, none⟩) (World.block_lt_of_cell? _ _ hc) hn]
          exact hc
        have hc0 : (wr.alloc (.cells #[I64 kind, I64 most] 85)).drew.cell? ⟨wr.heap.size, 1, none⟩ = some (I64 most) := by simp
        have hca : (wr.alloc (.cells #[I64 kind, I64 most] 85)).cell? ⟨wr.heap.size, 1, none⟩ = some (I64 most) := by simp
        have hrm : ∀ W0 v, IsRR W0 (inA Am) gm st → Fr (fun b => b = gr) W0 v → IsRR v (inA Am) gm st := fun W0 v h0 h => h0.fr h (fun e => by omega) (fun b hb e => by have := nm b hb; omega)
        have hFS : ∀ b, F b → b < wS.heap.size := fun b hb => by have := hFl b hb; omega
        have hAS : ∀ b, inA Am b → b < wS.heap.size := fun b hb => by have := z4 b hb; omega
        go_wp2_with fail
        · have hcon := fun W (hi : IsRd W F gr st) => rdnumber_any W F gr st hi most
          have hcon2 := fun W (hi : IsRR W (inA Am) gm st) => rrnumber_any W (inA Am) gm st hi most hle3
          have hleft2 : rdLeft (rdNum most st).2 ≤ 20000 := Nat.le_trans (rdNum_left _ _) hleft
          generalize rdNum most st = q at hcon hcon2 hleft2
          obtain ⟨qv, qs⟩ := q
          simp only at hleft2 hcon hcon2
          have HC := Lib.hid hcon
          have HC2 := Lib.hid hcon2
          clear hcon hcon2
          (go_region_held3 (fun w' => w'.cell? ⟨wr.heap.size, 1, none⟩ = some (I64 most)) (first | go_keep | ((exact g1)) | ((exact g2)))
            ((first | (go_at_call 33; refine (HC.out _ ir0).mono ?_; rintro e v1 ⟨rfl, h1⟩; have g1 := hcell _ v1 hc0 h1.2) | (go_at_call 48; refine (HC2.out _ (hrm _ v1 im0 h1.2)).mono ?_; rintro e v2 ⟨rfl, h2⟩; have g2 := hcell2 v1 v2 h2.2 g1))))
          have hat2 : RdsAt wS F (inA Am) gr gm (.slice Br m cr) qs m v2 := (hat.nw q0 hgrS hzS).step ((h1.2.mono (fun _ h => .inl (.inl h))).tr (h2.2.mono (fun _ h => .inl (.inr h)))) (h1.1.fr h2.2 hgne (fun b hb e => by have := hFl b hb; omega)) h2.1 hgrS hzS
          obtain ⟨A9, c9, hc9⟩ := hat2.rr.leftCell
          have hLd := fun W hi => rdleft_any W F gr qs hi
          have hE1 := fun W hi => rdend_any W F gr qs hi
          have hE2 := fun W hi => rrend_any W (inA Am) gm qs hi
          have irT := hat2.rd
          have imT := hat2.rr
          have HAT := Lib.hid hat2
          have HLEFT := Lib.hid hleft2
          clear hat2 hleft2
          generalize rdLeft qs = nl at hLd hc9
          generalize rdEnd qs = ne at hE1 hE2
          have HL := Lib.hid hLd
          have HE1 := Lib.hid hE1
          have HE2 := Lib.hid hE2
          clear hLd hE1 hE2
          have d0 := fun (n : Later v2) => n.cell hc9
          go_wp2_with fail
          refine wp_region_later (by kernel_rfl) (by kernel_rfl) ?_
          repeat (go_big_quiet_step ((first | (go_at_call 32; exact Later.same (HL.out _ (irT.fr (Later.nw _) (fun h => h) (fun _ _ h => h)))) | (go_at_call 34; exact Later.same (HE1.out _ (irT.fr (Later.nw _) (fun h => h) (fun _ _ h => h)))) | (go_at_call 54; exact Later.same (HE2.out _ (imT.fr (Later.nw _) (fun h => h) (fun _ _ h => h)))))))
          refine wpQuiet_later fun v5 q5 => ?_
          clear d0
          go_wp2_with fail
          go_roundw
          case rel => exact ⟨k + 1, qs, m, by omega, rfl, by omega, HLEFT.out, HAT.out.nw q5 hgrS hzS⟩
          case measure => simp [intOf]; omega
        · have hcon := fun W (hi : IsRd W F gr st) => rdflag_any W F gr st hi
          have hcon2 := fun W (hi : IsRR W (inA Am) gm st) => rrflag_any W (inA Am) gm st hi
          have hleft2 : rdLeft (rdFlag st).2 ≤ 20000 := Nat.le_trans (rdFlag_left _) hleft
          generalize rdFlag st = q at hcon hcon2 hleft2
          obtain ⟨qv, qs⟩ := q
          simp only at hleft2 hcon hcon2
          refine (hcon _ ira).mono ?_
          rintro e v1 ⟨rfl, h1⟩
          go_wp2_with fail
          refine (hcon2 _ (hrm _ v1 ima h1.2)).mono ?_
          rintro e v2 ⟨rfl, h2⟩
          clear hcon hcon2
          have hat2 : RdsAt wS F (inA Am) gr gm (.slice Br m cr) qs m v2 := (hat.nw qa hgrS hzS).step ((h1.2.mono (fun _ h => .inl (.inl h))).tr (h2.2.mono (fun _ h => .inl (.inr h)))) (h1.1.fr h2.2 hgne (fun b hb e => by have := hFl b hb; omega)) h2.1 hgrS hzS
          obtain ⟨A9, c9, hc9⟩ := hat2.rr.leftCell
          have hLd := fun W hi => rdleft_any W F gr qs hi
          have hE1 := fun W hi => rdend_any W F gr qs hi
          have hE2 := fun W hi => rrend_any W (inA Am) gm qs hi
          have irT := hat2.rd
          have imT := hat2.rr
          have HAT := Lib.hid hat2
          have HLEFT := Lib.hid hleft2
          clear hat2 hleft2
          generalize rdLeft qs = nl at hLd hc9
          generalize rdEnd qs = ne at hE1 hE2
          have HL := Lib.hid hLd
          have HE1 := Lib.hid hE1
          have HE2 := Lib.hid hE2
          clear hLd hE1 hE2
          have d0 := fun (n : Later v2) => n.cell hc9
          go_wp2_with fail
          refine wp_region_later (by kernel_rfl) (by kernel_rfl) ?_
          repeat (go_big_quiet_step ((first | (go_at_call 32; exact Later.same (HL.out _ (irT.fr (Later.nw _) (fun h => h) (fun _ _ h => h)))) | (go_at_call 34; exact Later.same (HE1.out _ (irT.fr (Later.nw _) (fun h => h) (fun _ _ h => h)))) | (go_at_call 54; exact Later.same (HE2.out _ (imT.fr (Later.nw _) (fun h => h) (fun _ _ h => h)))))))
          refine wpQuiet_later fun v5 q5 => ?_
          clear d0
          go_wp2_with fail
          go_roundw
          case rel => exact ⟨k + 1, qs, m, by omega, rfl, by omega, HLEFT.out, HAT.out.nw q5 hgrS hzS⟩
          case measure => simp [intOf]; omega
        · have hcon := fun W (hi : IsRd W F gr st) => rdtext_any W F gr st hi most hle3
          have hcon2 := fun W (hi : IsRR W (inA Am) gm st) => rrrow_any W (inA Am) gm st hi most hle3
          have hleft2 : rdLeft (rdRow most st).2 ≤ 20000 := Nat.le_trans (rdRow_left _ _) hleft
          generalize rdRow most st = q at hcon hcon2 hleft2
          obtain ⟨rb, qs⟩ := q
          simp only at hleft2 hcon hcon2
          have HC := Lib.hid hcon
          have HC2 := Lib.hid hcon2
          clear hcon hcon2
          first | (go_region_with ((first | (go_at_call 51; refine (HC.out _ ir0).mono ?_; rintro e v1 ⟨rfl, h1⟩; have g1 := hcell _ v1 hc0 h1.2) | (go_at_call 52; refine (HC2.out _ (hrm _ v1 im0 h1.2)).mono ?_; rintro e v2 ⟨A8, c8, rfl, o8, h2, n8⟩; have g2 := hcell2 v1 v2 h2.2 g1; have t2 := run_text_sl v2 _ A8 c8 rb o8.sl)))) | fail
          all_goals (
            try simp only [Act.put, List.getElem_toArray, List.getElem_cons_succ, List.getElem_cons_zero, List.setIfInBounds_toArray, List.set_cons_zero, List.set_cons_succ]
            have hat2 : RdsAt wS F (inA Am) gr gm (.slice Br m cr) qs m v2 := (hat.nw q0 hgrS hzS).step ((h1.2.mono (fun _ h => .inl (.inl h))).tr (h2.2.mono (fun _ h => .inl (.inr h)))) (h1.1.fr h2.2 hgne (fun b hb e => by have := hFl b hb; omega)) h2.1 hgrS hzS
            obtain ⟨A9, c9, hc9⟩ := hat2.rr.leftCell
            have hLd := fun W hi => rdleft_any W F gr qs hi
            have hE1 := fun W hi => rdend_any W F gr qs hi
            have hE2 := fun W hi => rrend_any W (inA Am) gm qs hi
            have irT := hat2.rd
            have imT := hat2.rr
            have HAT := Lib.hid hat2
            have HLEFT := Lib.hid hleft2
            clear hat2 hleft2
            generalize rdLeft qs = nl at hLd hc9
            generalize rdEnd qs = ne at hE1 hE2
            have HL := Lib.hid hLd
            have HE1 := Lib.hid hE1
            have HE2 := Lib.hid hE2
            clear hLd hE1 hE2
            have d0 := fun (n : Later v2) => n.cell hc9
            go_wp2_with fail
            refine wp_region_later (by kernel_rfl) (by kernel_rfl) ?_
            repeat (go_big_quiet_step ((first | (go_at_call 32; exact Later.same (HL.out _ (irT.fr (Later.nw _) (fun h => h) (fun _ _ h => h)))) | (go_at_call 34; exact Later.same (HE1.out _ (irT.fr (Later.nw _) (fun h => h) (fun _ _ h => h)))) | (go_at_call 54; exact Later.same (HE2.out _ (imT.fr (Later.nw _) (fun h => h) (fun _ _ h => h)))))))
            refine wpQuiet_later fun v5 q5 => ?_
            clear d0
            go_wp2_with fail
            go_roundw
            case rel => exact ⟨k + 1, qs, m, by omega, rfl, by omega, HLEFT.out, HAT.out.nw q5 hgrS hzS⟩
            case measure => simp [intOf]; omega)
        · have hcon := fun W (hi : IsRd W F gr st) => rdrow_any W F gr st hi most hle3
          have hcon2 := fun W (hi : IsRR W (inA Am) gm st) => rrrow_any W (inA Am) gm st hi most hle3
          have hlen : (rdRow most st).1.length ≤ 20000 := Nat.le_trans (rdRow_len _ _) hleft
          have hleft2 : rdLeft (rdRow most st).2 ≤ 20000 := Nat.le_trans (rdRow_left _ _) hleft
          generalize rdRow most st = q at hcon hcon2 hlen hleft2
          obtain ⟨rb, qs⟩ := q
          simp only at hleft2 hcon hcon2 hlen
          refine (hcon _ ira).mono ?_
          rintro e v1 ⟨A7, c7, rfl, o7, h1, n7⟩
          have hc1 := hcell _ v1 hca h1.2
          go_wp2_with fail
          refine (hcon2 _ (hrm _ v1 ima h1.2)).mono ?_
          rintro e v2 ⟨A8, c8, rfl, o8, h2, n8⟩
          clear hcon hcon2
          have hA7 : ∀ b, inA A7 b → wr.heap.size < b := fun b hb => by have := n7 b hb; simp at this; omega
          have hfs := hf.size
          have o9 := o7.fr h2.2 (fun b hb e => by have := hA7 b hb; omega)
          have hat2' := (hat.nw qa hgrS hzS).step ((h1.2.mono (fun _ h => .inl (.inl h))).tr (h2.2.mono (fun _ h => .inl (.inr h)))) (h1.1.fr h2.2 hgne (fun b hb e => by have := hFl b hb; omega)) h2.1 hgrS hzS
          go_wp2_with fail
          refine (same_u8 _ _ _ _ _ _ _ _ _ o9.sl o8.sl (by omega)).mono ?_
          rintro e v3 ⟨rfl, n3, rfl⟩
          have f2 : Fr (fun b => b = gr ∨ b = gm) wr v2 := (Nw.on qa).tr ((h1.2.mono (fun _ h => .inl (.inl h))).tr (h2.2.mono (fun _ h => .inl (.inr h))))
          have fd : Nw v2 (v2.drewN n3) := (Fr.refl _ v2).drewN n3
          have f3 : Fr (fun b => b = gr ∨ b = gm) wr (v2.drewN n3) := f2.tr (Nw.on fd)
          have ho3 := ho.fr f3 (fun b hb h => by have := hBr b hb; omega)
          have hrw3 := hrw.fr f3 (fun j hj b hb h => by have := hIn b ⟨j, hj, hb⟩; omega)
          have o3 := o9.fr fd (fun _ _ h => h)
          have ir3 := (hat2'.nw fd hgrS hzS).rd
          have im3 := (hat2'.nw fd hgrS hzS).rr
          have HROW := Lib.hid (fun B' c' v4 => RdsAt.row (B' := B') (c' := c') (v4 := v4) ho3 hrw3 hfar hNs hBr hIn ir3 im3 (hf.tr f3) o3 hlen (fun b hb => by have := hA7 b hb; omega) (fun b hb hi => by have := hA7 b hb; have := hrw.inlt hi; omega) hFS hAS hgrS hzS (ob := .cells #[.slice A7 rb.length c7] 43))
          clear f3 f2 hat2'
          go_wp2_with (at_builtin; refine wl_append rfl _ _ _ rfl 24 (.slice none 0 0) Try.underlying72 info_bytes rfl (by decide) rfl (ho3.alloc _) rfl (sl_new (v2.drewN n3) 43 [.slice A7 rb.length c7] _ rfl) rfl (by simp [Value.oneCell']) (by omega) (by unfold maxLen; omega) ?_; intro B' c' v4 ho4 hf4 hin4)
          have hat4 := HROW.out B' c' v4 ho4 hf4 hin4
          clear ho4 hf4 hin4
          have hat2 : RdsAt wS F (inA Am) gr gm (.slice B' (m + 1) c') qs (m + 1) v4 := hat4
          obtain ⟨A9, c9, hc9⟩ := hat2.rr.leftCell
          have hLd := fun W hi => rdleft_any W F gr qs hi
          have hE1 := fun W hi => rdend_any W F gr qs hi
          have hE2 := fun W hi => rrend_any W (inA Am) gm qs hi
          have irT := hat2.rd
          have imT := hat2.rr
          have HAT := Lib.hid hat2
          have HLEFT := Lib.hid hleft2
          clear hat2 hleft2
          generalize rdLeft qs = nl at hLd hc9
          generalize rdEnd qs = ne at hE1 hE2
          have HL := Lib.hid hLd
          have HE1 := Lib.hid hE1
          have HE2 := Lib.hid hE2
          clear hLd hE1 hE2
          have d0 := fun (n : Later v4) => n.cell hc9
          go_wp2_with fail
          refine wp_region_later (by kernel_rfl) (by kernel_rfl) ?_
          repeat (go_big_quiet_step ((first | (go_at_call 32; exact Later.same (HL.out _ (irT.fr (Later.nw _) (fun h => h) (fun _ _ h => h)))) | (go_at_call 34; exact Later.same (HE1.out _ (irT.fr (Later.nw _) (fun h => h) (fun _ _ h => h)))) | (go_at_call 54; exact Later.same (HE2.out _ (imT.fr (Later.nw _) (fun h => h) (fun _ _ h => h)))))))
          refine wpQuiet_later fun v5 q5 => ?_
          clear d0
          go_wp2_with fail
          go_roundw
          case rel => exact ⟨k + 1, qs, (m + 1), by omega, rfl, by omega, HLEFT.out, HAT.out.nw q5 hgrS hzS⟩
          case measure => simp [intOf]; omega
      · have hi0 : ¬ ((k : Int) < (cs.length : Int)) := by omega
        have q0 : Nw wr wr.drew := (Fr.refl _ wr).drew
        have ir0 := ir.fr q0 (fun h => h) (fun _ _ h => h)
        have im0 := im.fr q0 (fun h => h) (fun _ _ h => h)
        have ho0 := ho.fr q0 (fun _ _ h => h)
        have hrw0 := hrw.nw q0
        have hgne : gr ≠ gm := by omega
        obtain ⟨A9, c9, hc9⟩ := im0.leftCell
        have hml := im.lt
        have hLd := rdleft_any wr.drew F gr st ir0
        have hE1 := rdend_any wr.drew F gr st ir0
        have hE2 := rrend_any wr.drew (inA Am) gm st im0
        have HAP := Lib.hid (apartBytes_any wr.drew _ Br cr m A N cp f ho0.sl hrw0 hfar (by omega) (fun j hj => by have := hNs j hj; omega))
        generalize rdLeft st = nl at hLd hc9
        generalize rdEnd st = ne at hE1 hE2
        have HL := Lib.hid hLd
        have HE1 := Lib.hid hE1
        have HE2 := Lib.hid hE2
        clear hLd hE1 hE2
        have hap : ∀ v, Fr (InR m A) wr.drew v → v.cell? ⟨gm, 0, none⟩ = some (.slice A9 nl c9) := by
          intro v h
          rw [h.cell (p := ⟨gm, 0, none⟩) hml (fun hi => by have := hIn _ hi; simp only at this; omega)]
          exact hc9
        have haw : ∀ v v', Nw v v' → v.cell? ⟨gm, 0, none⟩ = some (.slice A9 nl c9) → v'.cell? ⟨gm, 0, none⟩ = some (.slice A9 nl c9) := by
          intro v v' h hc
          rw [h.cell (p := ⟨gm, 0, none⟩) (World.block_lt_of_cell? _ _ hc) (fun h => h)]
          exact hc
        have HQ := Lib.hid (q7.new hf (fun b hb => by rcases hb with rfl | rfl <;> omega))
        have HIN := Lib.hid (fun b hb => Nat.le_trans hSb (hIn b hb))
        clear ir im im0 ir0 ho0 hrw0 hrw ho hIn hBr
        go_wp2_with fail
        (go_region_held3 (fun w' => w'.cell? ⟨gm, 0, none⟩ = some (.slice A9 nl c9)) (first | go_keep | ((exact g4)) | ((exact g5)))
          ((first | (go_at_call 32; refine (HL.out).mono ?_; rintro e v1 ⟨rfl, rfl⟩) | (go_at_call 34; refine (HE1.out).mono ?_; rintro e v1 ⟨rfl, rfl⟩) | (go_at_call 54; refine (HE2.out).mono ?_; rintro e v1 ⟨rfl, rfl⟩) | (go_at_call 44; refine (HAP.out).mono ?_; rintro e v4 ⟨rfl, h4⟩; have g4 := hap v4 h4) | (go_at_call 30; refine (awake02 v4).mono ?_; rintro e v5 ⟨rfl, h5⟩; have g5 := haw v4 v5 h5 g4))))
        go_wp2_with fail
        go_ret
        exact ⟨rfl, ((HQ.out.drew).new h4 HIN.out).tr h5⟩
end Go.Proofs.Ytoapobgnfgfobaa
