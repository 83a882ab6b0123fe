/- Lemmas of the walks: NoM, NoP, NoQ. (Laid together by shake.py.) -/
import Derived.Test.YtippdjaakcgeoaaGreatNe06
import Derived.Test.YtippdjaakcgeoaaGreatNe07
import Derived.Test.YtippdjaakcgeoaaGreatNe08
set_option linter.unusedVariables false
set_option linter.unusedSimpArgs false
namespace Go.Proofs.YtippdjaakcgeoaaGreat
open Go Go.RowKit
set_option linter.unusedVariables false
set_option linter.unusedSimpArgs false
def sendR (w : World) (O I : Nat → Prop) (Y : NetM) (xs : List LetM) (v i : Value) (wr : World) : Prop :=
  ∃ (k : Nat) (O2 I2 : Nat → Prop) (Y2 : NetM), k ≤ xs.length ∧ i = .int .i64 k ∧ v = I64 ((sendP Y.p ((xs.take k).map LetM.x)).2 : Nat) ∧ IsNet wr O2 I2 Y2 ∧ Y2.g = Y.g ∧ Y2.m = Y.m ∧ Y2.p = (sendP Y.p ((xs.take k).map LetM.x)).1 ∧ Y2.s ≤ Y.s + k ∧ Fr O w wr ∧ (∀ j, O2 j → O j ∨ w.heap.size ≤ j) ∧ ∀ j, I2 j → I j ∨ w.heap.size ≤ j
set_option maxRecDepth 100000 in
set_option maxHeartbeats 8000000 in
theorem netSend_any (w : World) (O I F : Nat → Prop) (Y : NetM) (h : IsNet w O I Y) (A : Option Addr) (c : Nat) (xs : List LetM) (hsl : Sl w F A (letsC xs)) (he : ∀ x ∈ xs, LetIn w F x) (hz : ∀ x ∈ xs, LetSz x) (hsz : xs.length ≤ 10000) (hFO : ∀ k, F k → ¬ O k) (hYs : Y.s < 900000000) :
    Calls Tryz.prog 19 #[.pointer (some ⟨Y.g, 0, none⟩), .slice A xs.length c] w fun e w' => e = .returned (I64 ((sendP Y.p (xs.map LetM.x)).2 : Nat)) ∧ ∃ O' I' Y', IsNet w' O' I' Y' ∧ Y'.g = Y.g ∧ Y'.m = Y.m ∧ Y'.p = (sendP Y.p (xs.map LetM.x)).1 ∧ Y'.s ≤ Y.s + xs.length ∧ Fr O w w' ∧ (∀ k, O' k → O k ∨ w.heap.size ≤ k) ∧ ∀ k, I' k → I k ∨ w.heap.size ≤ k := by
  have HE := Lib.hid he
  have HZ := Lib.hid hz
  clear he hz
  go_enter Tryz.func19, Tryz.ntmps19
  go_wp2_with fail
  go_loopw [5, 11] (fun v i wr => sendR w O I Y xs v i wr) (fun _ i _ => xs.length - (intOf i).toNat)
  case atStart => exact ⟨0, O, I, Y, Nat.zero_le _, rfl, rfl, h, rfl, rfl, rfl, Nat.le_refl _, Fr.refl _ _, fun _ h => .inl h, fun _ h => .inl h⟩
  case round =>
    obtain ⟨k, O2, I2, Y2, hk, rfl, rfl, hN, eg, em, hp, hs2, hq, hO2, hI2⟩ := hrel
    have HP := Lib.hid hp
    clear hp
    have hle := sendP_le Y.p ((xs.take k).map LetM.x)
    by_cases hlt : k < xs.length
    · obtain ⟨b, o, rfl, _, _, hc⟩ := (hsl.fr hq hFO).let_ hlt
      have hi0 : (k : Int) < (xs.length : Int) := by omega
      have hfO : ∀ j, F j → ¬ O j := hFO
      have x1 := (HE.out _ (List.getElem_mem hlt)).fr hq hFO
      have z1 := HZ.out _ (List.getElem_mem hlt)
      obtain ⟨x, hx⟩ : ∃ x, xs[k] = x := ⟨_, rfl⟩
      rw [hx] at x1 z1 hc
      have HX := Lib.hid hx
      clear hx
      obtain ⟨G, hG⟩ : ∃ G, G = wr.heap.size := ⟨_, rfl⟩
      obtain ⟨V0, hV0⟩ : ∃ V, V = wr.alloc (.cells #[U8V 0, I64 0, I64 0, I64 0, I64 0, I64 0, I64 0, I64 0, .bool false, .slice none 0 0, I64 0, I64 0, .slice none 0 0, .slice none 0 0, .slice none 0 0, .slice none 0 0, I64 0, I64 0, I64 0, .slice none 0 0] 50) := ⟨_, rfl⟩
      have qv0 : Nw wr V0 := by rw [hV0]; exact (Fr.refl (fun _ => False) wr).alloc _
      have g0 : Blk V0 G 50 #[U8V 0, I64 0, I64 0, I64 0, I64 0, I64 0, I64 0, I64 0, .bool false, .slice none 0 0, I64 0, I64 0, .slice none 0 0, .slice none 0 0, .slice none 0 0, .slice none 0 0, I64 0, I64 0, I64 0, .slice none 0 0] := by rw [hV0, hG]; exact Blk.new _ _ _
      obtain ⟨V1, hV1⟩ : ∃ V, V = V0.setCells G 0 [U8V x.kind, I64 x.group, I64 x.src, I64 x.dst, I64 x.term, I64 x.index, I64 x.logt, I64 x.commit, .bool x.ok, .slice x.ents.a x.ents.l.length x.ents.c, I64 x.base.index, I64 x.base.term, .slice x.base.cfg.v.a x.base.cfg.v.l.length x.base.cfg.v.c, .slice x.base.cfg.o.a x.base.cfg.o.l.length x.base.cfg.o.c, .slice x.base.cfg.l.a x.base.cfg.l.l.length x.base.cfg.l.c, .slice x.base.cfg.w.a x.base.cfg.w.l.length x.base.cfg.w.c, I64 x.size, I64 x.at_, I64 x.tag, .slice x.bytes.a x.bytes.l.length x.bytes.c] := ⟨_, rfl⟩
      have g1 : Blk V1 G 50 #[U8V x.kind, I64 x.group, I64 x.src, I64 x.dst, I64 x.term, I64 x.index, I64 x.logt, I64 x.commit, .bool x.ok, .slice x.ents.a x.ents.l.length x.ents.c, I64 x.base.index, I64 x.base.term, .slice x.base.cfg.v.a x.base.cfg.v.l.length x.base.cfg.v.c, .slice x.base.cfg.o.a x.base.cfg.o.l.length x.base.cfg.o.c, .slice x.base.cfg.l.a x.base.cfg.l.l.length x.base.cfg.l.c, .slice x.base.cfg.w.a x.base.cfg.w.l.length x.base.cfg.w.c, I64 x.size, I64 x.at_, I64 x.tag, .slice x.bytes.a x.bytes.l.length x.bytes.c] := by rw [hV1]; exact Blk.setCells (l := [U8V 0, I64 0, I64 0, I64 0, I64 0, I64 0, I64 0, I64 0, .bool false, .slice none 0 0, I64 0, I64 0, .slice none 0 0, .slice none 0 0, .slice none 0 0, .slice none 0 0, I64 0, I64 0, I64 0, .slice none 0 0]) g0 0 [U8V x.kind, I64 x.group, I64 x.src, I64 x.dst, I64 x.term, I64 x.index, I64 x.logt, I64 x.commit, .bool x.ok, .slice x.ents.a x.ents.l.length x.ents.c, I64 x.base.index, I64 x.base.term, .slice x.base.cfg.v.a x.base.cfg.v.l.length x.base.cfg.v.c, .slice x.base.cfg.o.a x.base.cfg.o.l.length x.base.cfg.o.c, .slice x.base.cfg.l.a x.base.cfg.l.l.length x.base.cfg.l.c, .slice x.base.cfg.w.a x.base.cfg.w.l.length x.base.cfg.w.c, I64 x.size, I64 x.at_, I64 x.tag, .slice x.bytes.a x.bytes.l.length x.bytes.c]
      have m1 : Fr (· = G) V0 V1 := by rw [hV1]; exact (Fr.refl (· = G) _).setCells _ _
      have qv1 : Nw wr V1 := qv0.new m1 (fun b hb => by omega)
      have hth := Blk.there (l := [U8V 0, I64 0, I64 0, I64 0, I64 0, I64 0, I64 0, I64 0, .bool false, .slice none 0 0, I64 0, I64 0, .slice none 0 0, .slice none 0 0, .slice none 0 0, .slice none 0 0, I64 0, I64 0, I64 0, .slice none 0 0]) g0 0 20 (by show 0 + 20 ≤ 20; omega)
      have hone := letA_one x
      have HG := Lib.hid hG
      have HV0 := Lib.hid hV0
      have HV1 := Lib.hid hV1
      clear hG hV0 hV1 m1 g0 qv0
      go_upto_region 5 with (first | (refine wl_load_cells rfl 50 _ rfl b (o + k * 20) rfl _ _ hc Tryz.underlying50 rfl (by kernel_rfl) ?_) | (rw [← HG.out, ← HV0.out]; refine wpList_store_mid rfl 50 _ _ rfl G 0 #[U8V x.kind, I64 x.group, I64 x.src, I64 x.dst, I64 x.term, I64 x.index, I64 x.logt, I64 x.commit, .bool x.ok, .slice x.ents.a x.ents.l.length x.ents.c, I64 x.base.index, I64 x.base.term, .slice x.base.cfg.v.a x.base.cfg.v.l.length x.base.cfg.v.c, .slice x.base.cfg.o.a x.base.cfg.o.l.length x.base.cfg.o.c, .slice x.base.cfg.l.a x.base.cfg.l.l.length x.base.cfg.l.c, .slice x.base.cfg.w.a x.base.cfg.w.l.length x.base.cfg.w.c, I64 x.size, I64 x.at_, I64 x.tag, .slice x.bytes.a x.bytes.l.length x.bytes.c] rfl rfl hth (by kernel_rfl) hone ?_; rw [← HV1.out]))
      have c2 : V1.cell? ⟨G, 2, none⟩ = some (I64 x.src) := by simpa using g1.cell 2
      have c3 : V1.cell? ⟨G, 3, none⟩ = some (I64 x.dst) := by simpa using g1.cell 3
      obtain ⟨D, hD⟩ : ∃ D, D = V1.heap.size := ⟨_, rfl⟩
      obtain ⟨W2, hW2⟩ : ∃ W, W = V1.alloc (.cells #[I64 x.src, I64 x.dst] 90) := ⟨_, rfl⟩
      have q2 : Nw V1 W2 := by rw [hW2]; exact (Fr.refl (fun _ => False) _).alloc _
      have bD : Blk W2 D 90 #[I64 x.src, I64 x.dst] := by rw [hW2, hD]; exact Blk.new _ _ _
      have g2 := g1.fr q2 (fun h => h)
      have N2 := (hN.nw qv1).nw q2
      have x2 := (x1.nw qv1).nw q2
      have HD := Lib.hid hD
      have HW2 := Lib.hid hW2
      clear hD hW2 hc
      go_upto_region 6 with (fail)
      rw [← HW2.out, ← HD.out]
      have N2g := N2.blk
      rw [eg, em] at N2g
      have hxs : ∀ wz, Nw W2 wz → ∀ a9, Sl wz (· = a9) (some ⟨a9, 0, none⟩) (letL x) → Calls Tryz.prog 35 #[.slice (some ⟨a9, 0, none⟩) 1 1] wz fun e w' => e = .returned (.bool (letOk x.x)) ∧ Nw wz w' := fun wz q a9 h9 =>
        (lRight_any wz (fun _ => True) (some ⟨a9, 0, none⟩) 1 [x] (by rw [letsC_one]; exact h9.mono (fun _ _ _ => trivial)) (fun y hy => by rw [List.mem_singleton.1 hy]; exact (x2.nw q).mono (fun _ _ _ => trivial)) (fun y hy => by rw [List.mem_singleton.1 hy]; exact z1) (by simp)).mono fun e w' h => ⟨by rw [h.1]; simp [letsOk], h.2⟩
      obtain ⟨d, hd⟩ : ∃ d, d = letOk x.x := ⟨_, rfl⟩
      rw [← hd] at hxs
      have HDD := Lib.hid hd
      clear hd
      refine wp_region_bld 4 W2 (letL x) (by kernel_rfl) (by kernel_rfl) (Fr.refl _ _) ?_
      apply wpEffT_cons
      focus
        intro B L wz hL hD hC
        refine .inl ⟨by rfl, ?_⟩
        unfold effAt
        go_simp
        exact ⟨rfl, hC.keep (by kernel_rfl) hD (by rfl)⟩
      simp only [Act.put, List.setIfInBounds_toArray, List.set_cons_zero, List.set_cons_succ]
      apply wpEffT_cons
      focus
        intro B L wz hL hD hC
        refine .inl ⟨by rfl, ?_⟩
        unfold effAt
        go_simp
        refine (netKnown_yes wz Y.g Y.m (N2g.fr hC.2.1 (fun h => h))).mono ?_
        rintro e w9 ⟨rfl, rfl⟩
        exact ⟨rfl, hC.keep (by kernel_rfl) hD (by rfl)⟩
      simp only [Act.put, List.setIfInBounds_toArray, List.set_cons_zero, List.set_cons_succ]
      apply wpEffT_cons
      focus
        intro B L wz hL hD hC
        refine .inl ⟨by rfl, ?_⟩
        unfold effAt
        go_simp
        exact ⟨rfl, hC.keep (by kernel_rfl) hD (by rfl)⟩
      simp only [Act.put, List.setIfInBounds_toArray, List.set_cons_zero, List.set_cons_succ]
      apply wpEffT_cons
      focus
        intro B L wz hL hD hC
        have hb9 := g2.fr hC.2.1 (fun h => h)
        refine .inl ⟨by rfl, ?_⟩
        exact effAt_cells 50 _ rfl G 0 rfl (letL x) _ (Blk.cells_at (l := letL x) hb9 0) Tryz.underlying50 rfl (by kernel_rfl) (hC.keep (by kernel_rfl) hD (by rfl))
      simp only [Act.put, List.setIfInBounds_toArray, List.set_cons_zero, List.set_cons_succ]
      refine wpEffT_free (fun b => .slice (some ⟨b, 0, none⟩) 1 1) ?_ ?_
      focus
        intro B L wz hL hD hC
        refine .inl ⟨by rfl, ?_⟩
        unfold effAtT
        go_simp
        exact ⟨wz.heap.size, rfl, hC.build (w' := wz.alloc (.cells (letA x) 50)) ((Fr.refl (fun _ => False) wz).alloc _) (by kernel_rfl) hD (sl_new wz 50 (letL x) _ rfl)⟩
      simp only [Act.put, List.setIfInBounds_toArray, List.set_cons_zero, List.set_cons_succ]
      apply wpEffT_cons
      focus
        intro B L wz hL hD hC
        have h4 := hC.2.2 (hD 4 (by kernel_rfl))
        refine .inl ⟨by rfl, ?_⟩
        unfold effAt
        go_simp
        refine (hxs wz hC.2.1 _ h4).mono ?_
        rintro e w9 ⟨rfl, q9⟩
        exact ⟨rfl, hC.step q9 (by kernel_rfl) hD (by rfl)⟩
      simp only [Act.put, List.setIfInBounds_toArray, List.set_cons_zero, List.set_cons_succ]
      cases d
      case false =>
        apply wpEffT_cons
        focus
          intro B L wz hL hD hC
          refine .inl ⟨by rfl, ?_⟩
          unfold effAt
          go_simp
          exact ⟨rfl, hC.keep (by kernel_rfl) hD (by rfl)⟩
        simp only [Act.put, List.setIfInBounds_toArray, List.set_cons_zero, List.set_cons_succ]
        apply wpEffT_cons
        focus
          intro B L wz hL hD hC
          refine .inl ⟨by rfl, ?_⟩
          unfold effAt
          go_simp
          exact ⟨rfl, hC.keep (by kernel_rfl) hD (by rfl)⟩
        simp only [Act.put, List.setIfInBounds_toArray, List.set_cons_zero, List.set_cons_succ]
        apply wpEffT_cons
        focus
          intro B L wz hL hD hC
          exact .inr ⟨by rfl, rfl, hC.keep (by kernel_rfl) hD (by rfl)⟩
        simp only [Act.put, List.setIfInBounds_toArray, List.set_cons_zero, List.set_cons_succ]
        apply wpEffT_cons
        focus
          intro B L wz hL hD hC
          exact .inr ⟨by rfl, rfl, hC.keep (by kernel_rfl) hD (by rfl)⟩
        simp only [Act.put, List.setIfInBounds_toArray, List.set_cons_zero, List.set_cons_succ]
        apply wpEffT_cons
        focus
          intro B L wz hL hD hC
          exact .inr ⟨by rfl, rfl, hC.keep (by kernel_rfl) hD (by rfl)⟩
        simp only [Act.put, List.setIfInBounds_toArray, List.set_cons_zero, List.set_cons_succ]
        apply wpEffT_cons
        focus
          intro B L wz hL hD hC
          exact .inr ⟨by rfl, rfl, hC.keep (by kernel_rfl) hD (by rfl)⟩
        simp only [Act.put, List.setIfInBounds_toArray, List.set_cons_zero, List.set_cons_succ]
        apply wpEffT_cons
        focus
          intro B L wz hL hD hC
          exact .inr ⟨by rfl, rfl, hC.keep (by kernel_rfl) hD (by rfl)⟩
        simp only [Act.put, List.setIfInBounds_toArray, List.set_cons_zero, List.set_cons_succ]
        apply wpEffT_cons
        focus
          intro B L wz hL hD hC
          exact .inr ⟨by rfl, rfl, hC.keep (by kernel_rfl) hD (by rfl)⟩
        simp only [Act.put, List.setIfInBounds_toArray, List.set_cons_zero, List.set_cons_succ]
        apply wpEffT_cons
        focus
          intro B L wz hL hD hC
          exact .inr ⟨by rfl, rfl, hC.keep (by kernel_rfl) hD (by rfl)⟩
        simp only [Act.put, List.setIfInBounds_toArray, List.set_cons_zero, List.set_cons_succ]
        apply wpEffT_cons
        focus
          intro B L wz hL hD hC
          exact .inr ⟨by rfl, rfl, hC.keep (by kernel_rfl) hD (by rfl)⟩
        simp only [Act.put, List.setIfInBounds_toArray, List.set_cons_zero, List.set_cons_succ]
        apply wpEffT_cons
        focus
          intro B L wz hL hD hC
          exact .inr ⟨by rfl, rfl, hC.keep (by kernel_rfl) hD (by rfl)⟩
        simp only [Act.put, List.setIfInBounds_toArray, List.set_cons_zero, List.set_cons_succ]
        apply wpEffT_cons
        focus
          intro B L wz hL hD hC
          refine .inl ⟨by rfl, ?_⟩
          unfold effAt
          go_simp
          exact ⟨rfl, hC.keep (by kernel_rfl) hD (by rfl)⟩
        simp only [Act.put, List.setIfInBounds_toArray, List.set_cons_zero, List.set_cons_succ]
        refine wpEffT_nil fun B wz hC => ?_
        have q6 := hC.2.1
        clear hC hxs
        go_wp2_with fail
        go_roundw
        case rel =>
          have hst : sendP Y.p ((xs.take (k + 1)).map LetM.x) = sendP Y.p ((xs.take k).map LetM.x) := by
            rw [List.take_succ_eq_append_getElem hlt, HX.out, List.map_append, List.map_singleton, sendP_snoc]
            unfold sendStep
            rw [if_neg]
            rintro ⟨h8, _⟩
            rw [← HDD.out] at h8
            cases h8
          exact ⟨k + 1, O2, I2, Y2, by omega, by go_num, by rw [hst, List.map_take], N2.nw q6, eg, em, by rw [hst]; exact HP.out, by omega, hq.tr (Nw.on ((qv1.tr q2).tr q6)), hO2, hI2⟩
        case measure => simp [intOf]; omega
      case true =>
        have hwf : NmWf (x.src, x.dst) := way_wf (x := x.x) HDD.out.symm
        obtain ⟨A0, c0, l0, hLO⟩ := N2.link_or (x.src, x.dst)
        obtain ⟨n0, hn0⟩ : ∃ n0, n0 = l0.length := ⟨_, rfl⟩
        have hev : ((Y2.f (x.src, x.dst)).map Ls.v).getD nilLets = .slice A0 n0 c0 := by rw [hn0]; exact hLO.val
        have HEV := Lib.hid hev
        have HN0 := Lib.hid hn0
        have hen : n0 = (Y2.p (x.src, x.dst)).length := by rw [hn0, ← hLO.p, List.length_map]
        have HEN := Lib.hid hen
        clear hev hn0 hen
        apply wpEffT_cons
        focus
          intro B L wz hL hD hC
          refine .inl ⟨by rfl, ?_⟩
          unfold effAt
          go_simp
          exact ⟨rfl, hC.keep (by kernel_rfl) hD (by rfl)⟩
        simp only [Act.put, List.setIfInBounds_toArray, List.set_cons_zero, List.set_cons_succ]
        apply wpEffT_cons
        focus
          intro B L wz hL hD hC
          refine .inl ⟨by rfl, ?_⟩
          unfold effAt
          go_simp
          exact ⟨rfl, hC.keep (by kernel_rfl) hD (by rfl)⟩
        simp only [Act.put, List.setIfInBounds_toArray, List.set_cons_zero, List.set_cons_succ]
        apply wpEffT_cons
        focus
          intro B L wz hL hD hC
          refine .inl ⟨by rfl, ?_⟩
          unfold effAt
          go_simp
          exact ⟨rfl, hC.keep (by kernel_rfl) hD (by rfl)⟩
        simp only [Act.put, List.setIfInBounds_toArray, List.set_cons_zero, List.set_cons_succ]
        apply wpEffT_cons
        focus
          intro B L wz hL hD hC
          refine .inl ⟨by rfl, ?_⟩
          unfold effAt
          go_simp
          exact ⟨rfl, hC.keep (by kernel_rfl) hD (by rfl)⟩
        simp only [Act.put, List.setIfInBounds_toArray, List.set_cons_zero, List.set_cons_succ]
        apply wpEffT_cons
        focus
          intro B L wz hL hD hC
          refine .inl ⟨by rfl, ?_⟩
          unfold effAt
          go_simp
          exact ⟨rfl, hC.keep (by kernel_rfl) hD (by rfl)⟩
        simp only [Act.put, List.setIfInBounds_toArray, List.set_cons_zero, List.set_cons_succ]
        apply wpEffT_cons
        focus
          intro B L wz hL hD hC
          refine .inl ⟨by rfl, ?_⟩
          unfold effAt
          go_simp
          exact ⟨rfl, hC.keep (by kernel_rfl) hD (by rfl)⟩
        simp only [Act.put, List.setIfInBounds_toArray, List.set_cons_zero, List.set_cons_succ]
        apply wpEffT_cons
        focus
          intro B L wz hL hD hC
          have hg9 : wz.cell? ⟨Y.g, 0, none⟩ = some (.map (some Y.m)) := by simpa using (N2g.fr hC.2.1 (fun h => h)).cell 0
          refine .inl ⟨by rfl, ?_⟩
          unfold effAt
          go_simp
          exact ⟨rfl, hC.keep (by kernel_rfl) hD (by rfl)⟩
        simp only [Act.put, List.setIfInBounds_toArray, List.set_cons_zero, List.set_cons_succ]
        apply wpEffT_cons
        focus
          intro B L wz hL hD hC
          have hb9 := bD.fr hC.2.1 (fun h => h)
          refine .inl ⟨by rfl, ?_⟩
          exact effAt_cells 90 _ rfl D 0 rfl [I64 x.src, I64 x.dst] _ (Blk.cells_at (l := [I64 x.src, I64 x.dst]) hb9 0) Tryz.underlying90 rfl (by kernel_rfl) (hC.keep (by kernel_rfl) hD (by rfl))
        simp only [Act.put, List.setIfInBounds_toArray, List.set_cons_zero, List.set_cons_succ]
        apply wpEffT_cons
        focus
          intro B L wz hL hD hC
          have hrun : (Instr.lookup 54 (.map (some Y.m)) (.agg #[I64 x.src, I64 x.dst]) false).run Tryz.prog wz = .ok (.slice A0 n0 c0) wz := by
            have := (N2.map.fr hC.2.1 (fun h => h)).look1 no_way Tryz.underlying54 (zero_lets wz) (x.src, x.dst) hwf
            rw [em] at this
            rw [this, HEV.out]
          refine .inl ⟨by rfl, ?_⟩
          unfold effAt
          go_simp
          exact ⟨rfl, hC.keep (by kernel_rfl) hD (by rfl)⟩
        simp only [Act.put, List.setIfInBounds_toArray, List.set_cons_zero, List.set_cons_succ]
        apply wpEffT_cons
        focus
          intro B L wz hL hD hC
          refine .inl ⟨by rfl, ?_⟩
          unfold effAt
          go_simp
          exact ⟨rfl, hC.keep (by kernel_rfl) hD (by rfl)⟩
        simp only [Act.put, List.setIfInBounds_toArray, List.set_cons_zero, List.set_cons_succ]
        by_cases h40 : n0 < 40
        · have hi40 : (n0 : Int) < 40 := by omega
          have hd40 : decide ((n0 : Int) < 40) = true := decide_eq_true hi40
          apply wpEffT_cons
          focus
            intro B L wz hL hD hC
            refine .inl ⟨by rfl, ?_⟩
            unfold effAt
            go_simp
            exact ⟨rfl, hC.keep (by kernel_rfl) hD (by rfl)⟩
          simp only [Act.put, List.setIfInBounds_toArray, List.set_cons_zero, List.set_cons_succ]
          apply wpEffT_cons
          focus
            intro B L wz hL hD hC
            refine .inl ⟨by rfl, ?_⟩
            unfold effAt
            go_simp
            exact ⟨rfl, hC.keep (by kernel_rfl) hD (by rfl)⟩
          simp only [Act.put, List.setIfInBounds_toArray, List.set_cons_zero, List.set_cons_succ]
          refine wpEffT_nil fun B wz hC => ?_
          have q6 := hC.2.1
          have N6 := N2.nw q6
          have g6 := g2.fr q6 (fun h => h)
          have b6 := bD.fr q6 (fun h => h)
          have x6 := x2.nw q6
          clear hC hxs
          go_upto_region 7 with (fail)
          have hcp : ∀ w9, Nw wz w9 → Calls Tryz.prog 33 #[.agg (letA x)] w9 fun e w' => ∃ y : LetM, e = .returned (.agg (letA y)) ∧ y.x = x.x ∧ LetOwn w9 w' y ∧ Nw w9 w' := fun w9 q => lCopy_any w9 (fun _ => True) x ((x6.nw q).mono (fun _ _ _ => trivial)) z1
          have l6 := hLO.nw q6
          have nG : ¬ (inA A0 G ∨ G = Y2.m) := fun e => by
            have h0 := HG.out
            rcases e with e | e
            · have := hN.ol _ (hLO.base _ e); omega
            · have := hN.ol _ hN.om; omega
          have nD : ¬ (inA A0 D ∨ D = Y2.m) := fun e => by
            have h0 := HD.out
            have h1 := qv1.size
            rcases e with e | e
            · have := hN.ol _ (hLO.base _ e); omega
            · have := hN.ol _ hN.om; omega
          have nY : ¬ (inA A0 Y2.g ∨ Y2.g = Y2.m) := fun e => by
            rcases e with e | e
            · exact (hLO.ne _ e).2 rfl
            · exact N2.gm e
          have y6 := N6.blk
          have m6 := N6.map
          have own6 : OwnO wz 50 20 A0 n0 c0 (letsC l0) := by rw [HN0.out]; exact l6.own
          rw [← eg]
          have HEG := Lib.hid eg
          have HEM := Lib.hid em
          clear eg em
          refine wp_region_appT (T := SdT) 13 14 15 16 (fun w9 => Nw wz w9) (sdS1 wz x) (sdS2 wz x) (sdS3 wz x A0 n0 c0 (letsC l0)) (sdS4 wz x A0 n0 c0 (letsC l0) Y2.m Y2.s (fun n => (Y2.f n).map Ls.v) (x.src, x.dst)) (fun _ => (letMZ, 0, none)) (by kernel_rfl) (by kernel_rfl) ((Fr.refl (fun _ => False) wz).drew) ?_
          apply wpEffT_cons
          focus
            intro B L w9 hL hD hC
            refine .inl ⟨by rfl, ?_⟩
            unfold effAt
            go_simp
            exact ⟨rfl, hC.keep (by kernel_rfl) hD (by rfl) (by rfl) (by rfl) (by rfl)⟩
          simp only [Act.put, List.setIfInBounds_toArray, List.set_cons_zero, List.set_cons_succ]
          apply wpEffT_cons
          focus
            intro B L w9 hL hD hC
            refine .inl ⟨by rfl, ?_⟩
            unfold effAt
            go_simp
            exact ⟨rfl, hC.keep (by kernel_rfl) hD (by rfl) (by rfl) (by rfl) (by rfl)⟩
          simp only [Act.put, List.setIfInBounds_toArray, List.set_cons_zero, List.set_cons_succ]
          apply wpEffT_cons
          focus
            intro B L w9 hL hD hC
            refine .inl ⟨by rfl, ?_⟩
            unfold effAt
            go_simp
            exact ⟨rfl, hC.keep (by kernel_rfl) hD (by rfl) (by rfl) (by rfl) (by rfl)⟩
          simp only [Act.put, List.setIfInBounds_toArray, List.set_cons_zero, List.set_cons_succ]
          apply wpEffT_cons
          focus
            intro B L w9 hL hD hC
            have f9 := hC.all (φ := Fr (fun k => inA A0 k ∨ k = Y2.m) wz w9) (fun h => Nw.on h) (fun a h => Nw.on h.1) (fun a b h => Nw.on h.1.1) (fun a b h => sd3_fr h _) (fun a b h => sd4_fr h)
            have hb9 := y6.fr f9 nY
            refine .inl ⟨by rfl, ?_⟩
            exact effAt_cells 56 _ rfl Y2.g 0 rfl [.map (some Y2.m)] _ (Blk.cells_at (l := [.map (some Y2.m)]) hb9 0) Tryz.underlying56 rfl (by kernel_rfl) (hC.keep (by kernel_rfl) hD (by rfl) (by rfl) (by rfl) (by rfl))
          simp only [Act.put, List.setIfInBounds_toArray, List.set_cons_zero, List.set_cons_succ]
          apply wpEffT_cons
          focus
            intro B L w9 hL hD hC
            have f9 := hC.all (φ := Fr (fun k => inA A0 k ∨ k = Y2.m) wz w9) (fun h => Nw.on h) (fun a h => Nw.on h.1) (fun a b h => Nw.on h.1.1) (fun a b h => sd3_fr h _) (fun a b h => sd4_fr h)
            have hb9 := b6.fr f9 nD
            refine .inl ⟨by rfl, ?_⟩
            exact effAt_cells 90 _ rfl D 0 rfl [I64 x.src, I64 x.dst] _ (Blk.cells_at (l := [I64 x.src, I64 x.dst]) hb9 0) Tryz.underlying90 rfl (by kernel_rfl) (hC.keep (by kernel_rfl) hD (by rfl) (by rfl) (by rfl) (by rfl))
          simp only [Act.put, List.setIfInBounds_toArray, List.set_cons_zero, List.set_cons_succ]
          apply wpEffT_cons
          focus
            intro B L w9 hL hD hC
            refine .inl ⟨by rfl, ?_⟩
            unfold effAt
            go_simp
            exact ⟨rfl, hC.keep (by kernel_rfl) hD (by rfl) (by rfl) (by rfl) (by rfl)⟩
          simp only [Act.put, List.setIfInBounds_toArray, List.set_cons_zero, List.set_cons_succ]
          apply wpEffT_cons
          focus
            intro B L w9 hL hD hC
            refine .inl ⟨by rfl, ?_⟩
            unfold effAt
            go_simp
            exact ⟨rfl, hC.keep (by kernel_rfl) hD (by rfl) (by rfl) (by rfl) (by rfl)⟩
          simp only [Act.put, List.setIfInBounds_toArray, List.set_cons_zero, List.set_cons_succ]
          apply wpEffT_cons
          focus
            intro B L w9 hL hD hC
            refine .inl ⟨by rfl, ?_⟩
            unfold effAt
            go_simp
            exact ⟨rfl, hC.keep (by kernel_rfl) hD (by rfl) (by rfl) (by rfl) (by rfl)⟩
          simp only [Act.put, List.setIfInBounds_toArray, List.set_cons_zero, List.set_cons_succ]
          apply wpEffT_cons
          focus
            intro B L w9 hL hD hC
            refine .inl ⟨by rfl, ?_⟩
            unfold effAt
            go_simp
            exact ⟨rfl, hC.keep (by kernel_rfl) hD (by rfl) (by rfl) (by rfl) (by rfl)⟩
          simp only [Act.put, List.setIfInBounds_toArray, List.set_cons_zero, List.set_cons_succ]
          apply wpEffT_cons
          focus
            intro B L w9 hL hD hC
            have f9 := hC.all (φ := Fr (fun k => inA A0 k ∨ k = Y2.m) wz w9) (fun h => Nw.on h) (fun a h => Nw.on h.1) (fun a b h => Nw.on h.1.1) (fun a b h => sd3_fr h _) (fun a b h => sd4_fr h)
            have hg9 : w9.cell? ⟨Y2.g, 0, none⟩ = some (.map (some Y2.m)) := by simpa using (y6.fr f9 nY).cell 0
            refine .inl ⟨by rfl, ?_⟩
            unfold effAt
            go_simp
            exact ⟨rfl, hC.keep (by kernel_rfl) hD (by rfl) (by rfl) (by rfl) (by rfl)⟩
          simp only [Act.put, List.setIfInBounds_toArray, List.set_cons_zero, List.set_cons_succ]
          apply wpEffT_cons
          focus
            intro B L w9 hL hD hC
            have f9 := hC.all (φ := Fr (fun k => inA A0 k ∨ k = Y2.m) wz w9) (fun h => Nw.on h) (fun a h => Nw.on h.1) (fun a b h => Nw.on h.1.1) (fun a b h => sd3_fr h _) (fun a b h => sd4_fr h)
            have hb9 := b6.fr f9 nD
            refine .inl ⟨by rfl, ?_⟩
            exact effAt_cells 90 _ rfl D 0 rfl [I64 x.src, I64 x.dst] _ (Blk.cells_at (l := [I64 x.src, I64 x.dst]) hb9 0) Tryz.underlying90 rfl (by kernel_rfl) (hC.keep (by kernel_rfl) hD (by rfl) (by rfl) (by rfl) (by rfl))
          simp only [Act.put, List.setIfInBounds_toArray, List.set_cons_zero, List.set_cons_succ]
          apply wpEffT_cons
          focus
            intro B L w9 hL hD hC
            have q9 : Nw wz w9 := hC.early hL (by kernel_rfl) (by kernel_rfl) (fun h => h) (fun a h => h.1) (fun a b h => h.1.1)
            have hrun : (Instr.lookup 54 (.map (some Y2.m)) (.agg #[I64 x.src, I64 x.dst]) false).run Tryz.prog w9 = .ok (.slice A0 n0 c0) w9 := by
              have := (m6.fr q9 (fun h => h)).look1 no_way Tryz.underlying54 (zero_lets w9) (x.src, x.dst) hwf
              rw [this, HEV.out]
            refine .inl ⟨by rfl, ?_⟩
            unfold effAt
            go_simp
            exact ⟨rfl, hC.keep (by kernel_rfl) hD (by rfl) (by rfl) (by rfl) (by rfl)⟩
          simp only [Act.put, List.setIfInBounds_toArray, List.set_cons_zero, List.set_cons_succ]
          apply wpEffT_cons
          focus
            intro B L w9 hL hD hC
            have f9 := hC.all (φ := Fr (fun k => inA A0 k ∨ k = Y2.m) wz w9) (fun h => Nw.on h) (fun a h => Nw.on h.1) (fun a b h => Nw.on h.1.1) (fun a b h => sd3_fr h _) (fun a b h => sd4_fr h)
            have hb9 := g6.fr f9 nG
            refine .inl ⟨by rfl, ?_⟩
            exact effAt_cells 50 _ rfl G 0 rfl (letL x) _ (Blk.cells_at (l := (letL x)) hb9 0) Tryz.underlying50 rfl (by kernel_rfl) (hC.keep (by kernel_rfl) hD (by rfl) (by rfl) (by rfl) (by rfl))
          simp only [Act.put, List.setIfInBounds_toArray, List.set_cons_zero, List.set_cons_succ]
          refine wpEffT_free (fun b => .agg (letA b.1)) ?_ ?_
          focus
            intro B L w9 hL hD hC
            obtain ⟨h1, h2⟩ := hC.call hL (by kernel_rfl) (by kernel_rfl) (by kernel_rfl) (by kernel_rfl) hD (by rfl) (by rfl) (by rfl)
            refine .inl ⟨by rfl, ?_⟩
            unfold effAtT
            go_simp
            refine (hcp _ h1).mono ?_
            rintro e w8 ⟨y, rfl, ey, oy, q8⟩
            exact ⟨(y, 0, none), rfl, h2 _ _ ⟨h1.tr q8, ey, oy.in_.mono (fun k hk _ => Nat.le_trans h1.size hk)⟩⟩
          simp only [Act.put, List.setIfInBounds_toArray, List.set_cons_zero, List.set_cons_succ]
          refine wpEffT_free (fun b => .slice (some ⟨b.2.1, 0, none⟩) 1 1) ?_ ?_
          focus
            intro B L w9 hL hD hC
            obtain ⟨h1, h2⟩ := hC.build hL (hD 13 (by kernel_rfl)) (by kernel_rfl) (by kernel_rfl) (by kernel_rfl) hD (by rfl) (by rfl) (by rfl)
            refine .inl ⟨by rfl, ?_⟩
            unfold effAtT
            go_simp
            exact ⟨(letMZ, w9.heap.size, none), rfl, h2 (w9.alloc (.cells (letA (B 13).1) 50)) _ ⟨sd1_nw h1 ((Fr.refl (fun _ => False) w9).alloc _), sl_new w9 50 (letL (B 13).1) _ rfl⟩⟩
          simp only [Act.put, List.setIfInBounds_toArray, List.set_cons_zero, List.set_cons_succ]
          refine wpEffT_free (fun b => .slice b.2.2 (n0 + 1) b.2.1) ?_ ?_
          focus
            intro B L w9 hL hD hC
            obtain ⟨h1, h2⟩ := hC.app hL (hD 14 (by kernel_rfl)) (by kernel_rfl) (by kernel_rfl) hD (by rfl) (by rfl)
            refine .inl ⟨by rfl, ?_⟩
            exact effAtT_appendO _ _ 28 rfl 256 (.agg #[U8V 0, I64 0, I64 0, I64 0, I64 0, I64 0, I64 0, I64 0, .bool false, .slice none 0 0, I64 0, I64 0, .slice none 0 0, .slice none 0 0, .slice none 0 0, .slice none 0 0, I64 0, I64 0, I64 0, .slice none 0 0]) Tryz.underlying28 info_let (by rfl) (by omega) rfl (own6.fr h1.1.1 (fun _ _ h => h)) rfl h1.2 (by rfl) (letL_cell _) (by omega) (by unfold maxLen; omega) (by omega) (fun A' cap' w' hA => ⟨(letMZ, cap', A'), rfl, h2 _ _ ⟨_, h1.1, hA⟩⟩)
          simp only [Act.put, List.setIfInBounds_toArray, List.set_cons_zero, List.set_cons_succ]
          apply wpEffT_cons
          focus
            intro B L w9 hL hD hC
            obtain ⟨h1, h2⟩ := hC.store hL (hD 15 (by kernel_rfl)) (by kernel_rfl) hD
            have hm9 : WayMap w9 Y2.m Y2.s (fun n => (Y2.f n).map Ls.v) := by
              obtain ⟨wy, h3, h4⟩ := h1
              exact (m6.fr h3.1 (fun h => h)).fr h4.fr (fun e => (hLO.ne _ e).1 rfl)
            have hset := netSet_put w9 Y2.m Y2.s _ hm9 (by unfold maxLen; omega) (x.src, x.dst) hwf (B 15).2.2 (n0 + 1) (B 15).2.1 (by omega)
            refine .inl ⟨by rfl, ?_⟩
            unfold effAt
            go_simp
            refine hset.mono ?_
            rintro e w8 ⟨rfl, hM8, f8⟩
            exact ⟨rfl, h2 _ ⟨w9, h1, hM8, f8⟩⟩
          simp only [Act.put, List.setIfInBounds_toArray, List.set_cons_zero, List.set_cons_succ]
          refine wpEffT_nil fun B wf hC => ?_
          have hfin := hC.fin (by rfl)
          obtain ⟨t, ht⟩ : ∃ t, t = B 13 := ⟨_, rfl⟩
          obtain ⟨b, hb⟩ : ∃ b, b = B 15 := ⟨_, rfl⟩
          rw [← ht, ← hb] at hfin
          clear hC hb ht
          obtain ⟨wx, ⟨wy, hs1, hap⟩, hMf, hff⟩ := hfin
          rw [HN0.out] at hap hMf
          have hwt : (t.1.src, t.1.dst) = (x.src, x.dst) := congrArg (fun u : LetF => (u.src, u.dst)) hs1.2.1
          obtain ⟨O3, I3, Y3, N7, eg3, em3, ep3, es3, f7, hO3, hI3⟩ := LinkOr.put N6 l6 hs1.1 t.1 hs1.2.2 (LetSz.of_eq hs1.2.1 z1) ⟨by rw [hs1.2.1]; exact HDD.out.symm, hwt⟩ (by rw [← HN0.out]; exact h40) hap hMf hff
          have HN7 := Lib.hid N7
          have HEP := Lib.hid ep3
          have f7w : Fr O2 wr wf := (Nw.on ((qv1.tr q2).tr q6)).tr f7
          have hwr := hq.size
          have h12 := qv1.size
          have h13 := q2.size
          have h14 := q6.size
          have HX3 := Lib.hid hs1.2.1
          clear N7 ep3 hs1 hap hMf hff hcp hwt
          rw [HEG.out]
          go_wp2_with fail
          go_roundw
          case rel =>
            have hst : sendP Y.p ((xs.take (k + 1)).map LetM.x) = sendStep (sendP Y.p ((xs.take k).map LetM.x)) x.x := by
              rw [List.take_succ_eq_append_getElem hlt, HX.out, List.map_append, List.map_singleton, sendP_snoc]
            have hst2 : sendStep (sendP Y.p ((xs.take k).map LetM.x)) x.x = (Y3.p, (sendP Y.p ((xs.take k).map LetM.x)).2 + 1) := by
              unfold sendStep
              rw [if_pos ⟨HDD.out.symm, by rw [← HP.out, ← HEN.out]; exact h40⟩, ← HP.out, HEP.out, HX3.out]
              refine congrArg (fun f => (f, (sendP Y.p ((xs.take k).map LetM.x)).2 + 1)) ?_
              funext m
              by_cases e : m = (x.src, x.dst)
              · subst e
                rfl
              · simp only [if_neg e]
            refine ⟨k + 1, O3, I3, Y3, by omega, by go_num, ?_, HN7.out, by rw [eg3, HEG.out], by rw [em3, HEM.out], by rw [hst, hst2], by omega, ?_, fun j hj => ?_, fun j hj => ?_⟩
            · rw [hst, hst2]
              have e9 : (xs.map LetM.x).take k = (xs.take k).map LetM.x := List.map_take.symm
              have hl9 : ((xs.take k).map LetM.x).length = k := by rw [List.length_map, List.length_take]; omega
              rw [hl9, ← e9] at hle
              rw [← e9]
              have hw9 := IntWalk.wrap64_in (((sendP Y.p ((xs.map LetM.x).take k)).2 : Nat) + 1 : Int) (by omega)
              rw [hw9]
              rfl
            · exact hq.trans f7w fun j hj => hO2 j hj
            · rcases hO3 j hj with h1 | h1
              · exact hO2 j h1
              · right; omega
            · rcases hI3 j hj with h1 | h1
              · exact hI2 j h1
              · right; omega
          case measure => simp [intOf]; omega
        · have hi40 : ¬ (n0 : Int) < 40 := by omega
          have hd40 : decide ((n0 : Int) < 40) = false := decide_eq_false hi40
          apply wpEffT_cons
          focus
            intro B L wz hL hD hC
            refine .inl ⟨by rfl, ?_⟩
            unfold effAt
            go_simp
            exact ⟨rfl, hC.keep (by kernel_rfl) hD (by rfl)⟩
          simp only [Act.put, List.setIfInBounds_toArray, List.set_cons_zero, List.set_cons_succ]
          apply wpEffT_cons
          focus
            intro B L wz hL hD hC
            refine .inl ⟨by rfl, ?_⟩
            unfold effAt
            go_simp
            exact ⟨rfl, hC.keep (by kernel_rfl) hD (by rfl)⟩
          simp only [Act.put, List.setIfInBounds_toArray, List.set_cons_zero, List.set_cons_succ]
          refine wpEffT_nil fun B wz hC => ?_
          have q6 := hC.2.1
          clear hC hxs
          go_wp2_with fail
          go_roundw
          case rel =>
            have hst : sendP Y.p ((xs.take (k + 1)).map LetM.x) = sendP Y.p ((xs.take k).map LetM.x) := by
              rw [List.take_succ_eq_append_getElem hlt, HX.out, List.map_append, List.map_singleton, sendP_snoc]
              unfold sendStep
              rw [if_neg]
              rintro ⟨_, h8⟩
              rw [← HP.out] at h8
              exact h40 (HEN.out ▸ h8)
            exact ⟨k + 1, O2, I2, Y2, by omega, by go_num, by rw [hst, List.map_take], N2.nw q6, eg, em, by rw [hst]; exact HP.out, by omega, hq.tr (Nw.on ((qv1.tr q2).tr q6)), hO2, hI2⟩
          case measure => simp [intOf]; omega
    · obtain rfl : xs.length = k := by omega
      obtain ⟨r, hr⟩ : ∃ r, r = (sendP Y.p ((xs.take xs.length).map LetM.x)).2 := ⟨_, rfl⟩
      rw [← hr]
      have HR := Lib.hid hr
      clear hr hle
      go_wp2_with fail
      go_ret
      have hT : (sendP Y.p (xs.map LetM.x)) = sendP Y.p ((xs.take xs.length).map LetM.x) := by rw [List.take_of_length_le (Nat.le_refl _)]
      refine ⟨by rw [hT, ← HR.out]; rfl, O2, I2, Y2, hN, eg, em, by rw [hT]; exact HP.out, hs2, hq, hO2, hI2⟩
end Go.Proofs.YtippdjaakcgeoaaGreat

namespace Go.Proofs.YtippdjaakcgeoaaGreat
open Go Go.RowKit
set_option linter.unusedVariables false
set_option linter.unusedSimpArgs false

/-- A struct loaded under a guard that says yes. -/
theorem wl_load_cells_w {P : Program} {ops : Array Oper} {rest : List Oper} {o : Oper} {a : Act} {w : World} {Q : Exit → Act → World → Prop} (hw : Region.wanted o (yielded ops a.tmps) = true) (ty : TypeId) (x : Operand) (ho : o.op = .load ty x)
    (g off : Nat) (hx : a.eval x = .pointer (some ⟨g, off, none⟩)) (cs : List Value) (d : TypeDesc) (hc : ∀ j v, cs[j]? = some v → w.cell? ⟨g, off + j, none⟩ = some v)
    (hu : P.underlying ty = some d) (hd : (match d with | .struct _ | .array _ _ => true | _ => false) = true) (hi : (P.info? ty).map (·.size) = some cs.length)
    (h : wpList P ops Q rest (a.put o.dst (.agg cs.toArray)) w) : wpList P ops Q (o :: rest) a w := by
  unfold wpList
  rw [if_pos hw]
  exact .inl (wp_load_cells ty x ho g off hx cs d hc hu hd hi h)
/-- The first of a link put behind once more. -/
def twP (p : Nm → List LetF) (n : Nm) : (Nm → List LetF) × Bool :=
  match p n with
  | [] => (p, false)
  | x :: _ => ((sendP p [x]).1, decide ((sendP p [x]).2 = 1))
set_option maxRecDepth 100000 in
set_option maxHeartbeats 4000000 in
theorem netTwice_any (w : World) (O I : Nat → Prop) (Y : NetM) (h : IsNet w O I Y) (hYs : Y.s < 900000000) (a b : Int) (hn : NmWf (a, b)) :
    Calls Tryz.prog 25 #[.pointer (some ⟨Y.g, 0, none⟩), I64 a, I64 b] w fun e w' => e = .returned (.bool (twP Y.p (a, b)).2) ∧ ∃ O' I' Y', IsNet w' O' I' Y' ∧ Y'.g = Y.g ∧ Y'.m = Y.m ∧ Y'.p = (twP Y.p (a, b)).1 ∧ Y'.s ≤ Y.s + 1 ∧ Fr O w w' ∧ (∀ k, O' k → O k ∨ w.heap.size ≤ k) ∧ ∀ k, I' k → I k ∨ w.heap.size ≤ k := by
  obtain ⟨A, c, l, hL⟩ := h.link_or (a, b)
  have hw : Calls Tryz.prog 62 #[.pointer (some ⟨Y.g, 0, none⟩), .agg #[I64 a, I64 b]] w fun e w' => e = .returned (.slice A l.length c) ∧ Nw w w' := (netWaits_any w Y.g Y.m Y.s _ h.blk h.map (a, b) hn).mono fun e w' h1 => ⟨by rw [h1.1, hL.val], h1.2⟩
  cases l with
  | nil =>
    have e1 : twP Y.p (a, b) = (Y.p, false) := by unfold twP; rw [← hL.p]; rfl
    rw [e1]
    have hw2 : Calls Tryz.prog 62 #[.pointer (some ⟨Y.g, 0, none⟩), .agg #[I64 a, I64 b]] w fun e w' => e = .returned (.slice A 0 c) ∧ Nw w w' := hw
    clear hw
    go_enter Tryz.func25, Tryz.ntmps25
    go_wp2_with (go_at_call 62; refine hw2.mono ?_; rintro e w1 ⟨rfl, q1⟩)
    go_ret
    exact ⟨rfl, O, I, Y, h.nw q1, rfl, rfl, rfl, Nat.le_succ _, Nw.on q1, fun _ h => .inl h, fun _ h => .inl h⟩
  | cons x l =>
    have e1 : twP Y.p (a, b) = ((sendP Y.p [x.x]).1, decide ((sendP Y.p [x.x]).2 = 1)) := by unfold twP; rw [← hL.p]; rfl
    rw [e1]
    obtain ⟨n0, hn0⟩ : ∃ n0, n0 = (x :: l).length := ⟨_, rfl⟩
    have hpos : 0 < n0 := by rw [hn0]; simp
    have hi0 : (0 : Int) < (n0 : Int) := by omega
    rw [← hn0] at hw
    have HN0 := Lib.hid hn0
    clear hn0
    have hsl := hL.own.sl
    obtain ⟨r, hr⟩ : ∃ r, r = (sendP Y.p [x.x]).2 := ⟨_, rfl⟩
    rw [← hr]
    have HR := Lib.hid hr
    clear hr
    obtain ⟨g2, o2, rfl, _, _, hc0⟩ := hsl.let_ (k := 0) (by simp)
    simp only [Nat.zero_mul, Nat.add_zero, List.getElem_cons_zero] at hc0
    have hin : inA (some ⟨g2, o2, none⟩) g2 := (inA_some _ _).2 rfl
    have x0 := hL.each x List.mem_cons_self
    have z0 := hL.sz x List.mem_cons_self
    go_enter Tryz.func25, Tryz.ntmps25
    go_upto_region 2 with (go_at_call 62; refine hw.mono ?_; rintro e w1 ⟨rfl, q1⟩)
    have hc : ∀ j u, (letL x)[j]? = some u → w1.cell? ⟨g2, o2 + j, none⟩ = some u := fun j u hu => (q1.cell (p := ⟨g2, o2 + j, none⟩) (hL.own.lt _ hin) (fun h => h)).trans (hc0 j u hu)
    have N1 := h.nw q1
    have x1 := x0.nw q1
    obtain ⟨D, hD⟩ : ∃ D, D = w1.heap.size := ⟨_, rfl⟩
    obtain ⟨W2, hW2⟩ : ∃ W, W = w1.alloc (.cells (letA x) 50) := ⟨_, rfl⟩
    have q2 : Nw w1 W2 := by rw [hW2]; exact (Fr.refl (fun _ => False) _).alloc _
    have s2 : Sl W2 (fun k => I k ∨ k = D) (some ⟨D, 0, none⟩) (letsC [x]) := by
      rw [letsC_one, hW2, hD]
      exact (sl_new w1 50 (letL x) _ rfl).mono fun k hk _ => .inr hk
    have hsend := netSend_any W2 O I (fun k => I k ∨ k = D) Y (N1.nw q2) (some ⟨D, 0, none⟩) 1 [x] s2 (fun y hy => by rw [List.mem_singleton.1 hy]; exact (x1.nw q2).mono fun k hk _ => .inl hk) (fun y hy => by rw [List.mem_singleton.1 hy]; exact z0) (by simp) (fun k hk ho => by
      rcases hk with hk | hk
      · exact h.dis k ho hk
      · have := h.ol k ho; have := q1.size; omega) hYs
    have e2 : (sendP Y.p ([x].map LetM.x)).2 = r := HR.out.symm
    have e3 : [x].map LetM.x = [x.x] := rfl
    have e4 : [x].length = 1 := rfl
    rw [e2, e3, e4] at hsend
    have HS := Lib.hid hsend
    have HD := Lib.hid hD
    have HW2 := Lib.hid hW2
    clear hsend hD hW2 e2 e3 e4 hc0 hw
    go_wp2_with (first | (refine wl_load_cells_w (by rfl) 50 _ rfl g2 o2 rfl _ _ hc Tryz.underlying50 rfl (by kernel_rfl) ?_) | (go_at_call 19; rw [← HW2.out, ← HD.out]; refine HS.out.mono ?_; rintro e w3 ⟨rfl, hP3⟩; have HP3 := Lib.hid hP3; clear hP3))
    go_ret
    obtain ⟨O3, I3, Y3, N3, eg, em, ep, es, f3, hO3, hI3⟩ := HP3.out
    have h1 := q1.size
    have h2 := q2.size
    refine ⟨?_, O3, I3, Y3, N3, eg, em, ep, es, (Nw.on (q1.tr q2)).tr f3, fun k hk => ?_, fun k hk => ?_⟩
    · by_cases he : r = 1
      · subst he; rfl
      · have : ¬ (r : Int) = 1 := by omega
        simp [he, this]
    · rcases hO3 k hk with h3 | h3
      · exact .inl h3
      · exact .inr (by omega)
    · rcases hI3 k hk with h3 | h3
      · exact .inl h3
      · exact .inr (by omega)
end Go.Proofs.YtippdjaakcgeoaaGreat

namespace Go.Proofs.YtippdjaakcgeoaaGreat
open Go Go.RowKit
set_option linter.unusedVariables false
set_option linter.unusedSimpArgs false

/-- What a net is behind a link set to letters that it had, in memory of their own. -/
theorem LinkOr.own_ {w wx w' : World} {O I : Nat → Prop} {Y : NetM} {n : Nm} {A A' : Option Addr} {c c' : Nat} {l l' : List LetM} (h : IsNet w O I Y) (hs : LinkOr w O I Y n A c l) (q : Nw w wx) (hm : ∀ x ∈ l', x ∈ l) (h0 : 0 < l'.length) (h40 : l'.length ≤ 40)
    (ho : Own wx 50 20 A' l'.length c' (letsC l')) (hA' : ∀ k, inA A' k → w.heap.size ≤ k) (hM : WayMap w' Y.m (Y.s + 1) (setW (fun x => (Y.f x).map Ls.v) n (some (.slice A' l'.length c')))) (hf : Fr (· = Y.m) wx w') :
    ∃ O' Y', IsNet w' O' I Y' ∧ Y'.g = Y.g ∧ Y'.m = Y.m ∧ Y'.p = setP Y.p n (l'.map LetM.x) ∧ Y'.s = Y.s + 1 ∧ Fr O w w' ∧ ∀ j, O' j → O j ∨ w.heap.size ≤ j := by
  have N5 := h.nw q
  have hq := q.size
  have hfs := hf.size
  have hmw := h.map.lt
  have hA'm : ∀ k, inA A' k → ¬ k = Y.m := fun k hk e => by have := hA' k hk; omega
  have hIs : ∀ k, I k → ¬ k = Y.m := fun k hk e => h.dis _ h.om (e ▸ hk)
  have N6 := N5.set (n := n) (v := some ⟨A', c', l'⟩) (O' := fun k => O k ∨ inA A' k) (I' := I) (s' := Y.s + 1) (w' := w') hM hf h.gm (fun n' t _ ht k hk => (N5.link n' t ht).off_map N5.map k hk) hIs (fun _ h => .inl h) (fun _ h => h)
    (fun k h8 h9 => by
      rcases h8 with h8 | h8
      · exact h.dis _ h8 h9
      · have := hA' k h8; have := h.il _ h9; omega)
    (fun k h8 => by
      rcases h8 with h8 | h8
      · have := h.ol _ h8; omega
      · have := ho.lt k h8; omega)
    (fun k h8 => by have := h.il _ h8; omega)
    (fun t ht => by
      injection ht with ht
      subst ht
      refine ⟨⟨ho.o.fr hf hA'm, fun k hk => .inr hk, h0, h40, fun x hx => ((hs.each x (hm x hx)).nw q).fr hf hIs, fun x hx => hs.sz x (hm x hx), fun x hx => hs.ok x (hm x hx)⟩, fun n' t' hn ht' k h8 h9 => ?_⟩
      have := hA' k h8
      have := h.ol _ ((h.link n' t' ht').base k h9)
      omega)
  refine ⟨_, _, N6, rfl, rfl, ?_, rfl, ?_, fun j hj => ?_⟩
  · funext m
    unfold setP
    by_cases e : m = n
    · subst e
      rw [NetM.p_some (s := ⟨A', c', l'⟩) (by simp [setF]), if_pos rfl]
    · rw [if_neg e]
      unfold NetM.p
      simp [setF, e]
  · exact (Nw.on q).tr (hf.mono fun k hk => .inl (by rw [hk]; exact h.om))
  · rcases hj with hj | hj
    · exact .inl hj
    · exact .inr (hA' j hj)
/-- The last of a link made the first. -/
def fwP (p : Nm → List LetF) (n : Nm) : (Nm → List LetF) × Bool :=
  match (p n).getLast? with
  | none => (p, false)
  | some x => (setP p n (x :: (p n).dropLast), true)
abbrev FwT := Nat × Option Addr
def fwS2 (W : World) (x : LetM) (t b : FwT) (w : World) : Prop := Nw W w ∧ Own w 50 20 (some ⟨b.1, 0, none⟩) 1 1 (letL x) ∧ W.heap.size ≤ b.1
def fwS3 (W : World) (cs : List Value) (m : Nat) (t b : FwT) (w : World) : Prop := Nw W w ∧ Own w 50 20 b.2 (1 + m) b.1 cs ∧ ∀ k, inA b.2 k → W.heap.size ≤ k
def fwS4 (W : World) (cs : List Value) (m : Nat) (Ym Ys : Nat) (f : Nm → Option Value) (n : Nm) (t b : FwT) (w : World) : Prop :=
  ∃ wx, fwS3 W cs m t b wx ∧ WayMap w Ym (Ys + 1) (setW f n (some (.slice b.2 (1 + m) b.1))) ∧ Fr (· = Ym) wx w
theorem under_letsF : Tryz.prog.underlying 28 = some (.slice (Tryz.prog.elem 28)) := by kernel_rfl
theorem size_letsF (w : World) : (sizeOf (Tryz.prog.elem 28)).run Tryz.prog w = .ok 20 w := by kernel_rfl
theorem own_new (w : World) (E : TypeId) (z n : Nat) (cs : List Value) (hn : n ≤ maxLen) (hz : cs.length = n * z) : Own (w.alloc (.cells cs.toArray E)) E z (some ⟨w.heap.size, 0, none⟩) n n cs := by
  have h := Own.new w E z n n cs.toArray (Nat.le_refl _) hn (by rw [List.size_toArray]; exact hz)
  have e : cs.toArray.toList.take (n * z) = cs := by
    rw [← hz]
    exact List.take_length
  rwa [e] at h
set_option maxRecDepth 100000 in
set_option maxHeartbeats 4000000 in
theorem netForward_any (w : World) (O I : Nat → Prop) (Y : NetM) (h : IsNet w O I Y) (hYs : Y.s < 900000000) (a b : Int) (hn : NmWf (a, b)) :
    Calls Tryz.prog 26 #[.pointer (some ⟨Y.g, 0, none⟩), I64 a, I64 b] w fun e w' => e = .returned (.bool (fwP Y.p (a, b)).2) ∧ ∃ O' Y', IsNet w' O' I Y' ∧ Y'.g = Y.g ∧ Y'.m = Y.m ∧ Y'.p = (fwP Y.p (a, b)).1 ∧ Y'.s ≤ Y.s + 1 ∧ Fr O w w' ∧ ∀ k, O' k → O k ∨ w.heap.size ≤ k := by
  obtain ⟨A, c, l, hL⟩ := h.link_or (a, b)
  have hw : Calls Tryz.prog 62 #[.pointer (some ⟨Y.g, 0, none⟩), .agg #[I64 a, I64 b]] w fun e w' => e = .returned (.slice A l.length c) ∧ Nw w w' := (netWaits_any w Y.g Y.m Y.s _ h.blk h.map (a, b) hn).mono fun e w' h1 => ⟨by rw [h1.1, hL.val], h1.2⟩
  by_cases hl0 : l = []
  · subst hl0
    have e1 : fwP Y.p (a, b) = (Y.p, false) := by unfold fwP; rw [← hL.p]; rfl
    rw [e1]
    have hw2 : Calls Tryz.prog 62 #[.pointer (some ⟨Y.g, 0, none⟩), .agg #[I64 a, I64 b]] w fun e w' => e = .returned (.slice A 0 c) ∧ Nw w w' := hw
    clear hw
    go_enter Tryz.func26, Tryz.ntmps26
    go_wp2_with (go_at_call 62; refine hw2.mono ?_; rintro e w1 ⟨rfl, q1⟩)
    go_ret
    exact ⟨rfl, O, Y, h.nw q1, rfl, rfl, rfl, Nat.le_succ _, Nw.on q1, fun _ h => .inl h⟩
  · obtain ⟨x, hx⟩ : ∃ x, l.getLast? = some x := ⟨l.getLast hl0, List.getLast?_eq_some_getLast hl0⟩
    have hdl : l = l.dropLast ++ [x] := by
      obtain ⟨ys, rfl⟩ := List.getLast?_eq_some_iff.1 hx
      rw [List.dropLast_concat]
    have e1 : fwP Y.p (a, b) = (setP Y.p (a, b) ((x :: l.dropLast).map LetM.x), true) := by
      unfold fwP
      rw [← hL.p, List.getLast?_map, hx, List.map_cons, List.map_dropLast]
      rfl
    rw [e1]
    obtain ⟨i, hi⟩ : ∃ i, i = l.dropLast := ⟨_, rfl⟩
    rw [← hi] at hdl ⊢
    clear hi
    subst hdl
    obtain ⟨m, hm⟩ : ∃ m, m = i.length := ⟨_, rfl⟩
    have hlen : (i ++ [x]).length = m + 1 := by rw [List.length_append, List.length_singleton, hm]
    have hmost := hL.most
    have hsl := hL.own.sl
    have hcap := hL.own.cap_le
    rw [hlen] at hw hmost hcap
    have hlet := hsl.let_ (k := m) (by rw [hlen]; omega)
    have hxe : (i ++ [x])[m]'(by rw [hlen]; omega) = x := by simp [hm]
    rw [hxe] at hlet
    obtain ⟨g2, o2, rfl, _, _, hc0⟩ := hlet
    have hin : inA (some ⟨g2, o2, none⟩) g2 := (inA_some _ _).2 rfl
    have hmem : ∀ y ∈ x :: i, y ∈ i ++ [x] := fun y hy => by
      rcases List.mem_cons.1 hy with rfl | hy
      · simp
      · exact List.mem_append_left _ hy
    have hsi : Sl w (fun k => k = g2) (some ⟨g2, o2, none⟩) (letsC i) := by
      have h1 := hsl.pre (k := i.length * 20)
      rw [letsC_append, List.take_left' (letsC_len i)] at h1
      exact h1.mono fun k hk _ => (inA_some _ _).1 hk
    have HM := Lib.hid hm
    have hne : ¬ (m : Int) + 1 = 0 := by omega
    have hlt9 : (m : Int) < (m : Int) + 1 := by omega
    clear hxe hm hx hl0 e1
    have hg2 : g2 < w.heap.size := hL.own.lt _ hin
    have hslc := slice_h (P := Tryz.prog) 28 under_letsF 20 size_letsF (some ⟨g2, o2, none⟩) (m + 1) c m (by omega)
    go_enter Tryz.func26, Tryz.ntmps26
    go_upto_region 5 with (go_at_call 62; refine hw.mono ?_; rintro e w1 ⟨rfl, q1⟩)
    have hc : ∀ w9, Nw w1 w9 → ∀ j u, (letL x)[j]? = some u → w9.cell? ⟨g2, o2 + m * 20 + j, none⟩ = some u := fun w9 q9 j u hu => ((q1.tr q9).cell (p := ⟨g2, o2 + m * 20 + j, none⟩) hg2 (fun h => h)).trans (hc0 j u hu)
    have N1 := h.nw q1
    have y1 := N1.blk
    have m1 := N1.map
    have si1 := hsi.fr q1 (fun _ _ h => h)
    refine wp_region_appT (T := FwT) 10 11 15 16 (fun w9 => Nw w1 w9) (fun _ w9 => Nw w1 w9) (fwS2 w1 x) (fwS3 w1 (letsC (x :: i)) m) (fwS4 w1 (letsC (x :: i)) m Y.m Y.s (fun n => (Y.f n).map Ls.v) (a, b)) (fun _ => (0, none)) (by kernel_rfl) (by kernel_rfl) ((Fr.refl (fun _ => False) w1).drew) ?_
    apply wpEffT_cons
    focus
      intro B L w9 hL hD hC
      refine .inl ⟨by rfl, ?_⟩
      unfold effAt
      go_simp
      exact ⟨rfl, hC.keep (by kernel_rfl) hD (by rfl) (by rfl) (by rfl) (by rfl)⟩
    simp only [Act.put, List.setIfInBounds_toArray, List.set_cons_zero, List.set_cons_succ]
    apply wpEffT_cons
    focus
      intro B L w9 hL hD hC
      refine .inl ⟨by rfl, ?_⟩
      unfold effAt
      go_simp
      exact ⟨rfl, hC.keep (by kernel_rfl) hD (by rfl) (by rfl) (by rfl) (by rfl)⟩
    simp only [Act.put, List.setIfInBounds_toArray, List.set_cons_zero, List.set_cons_succ]
    apply wpEffT_cons
    focus
      intro B L w9 hL hD hC
      refine .inl ⟨by rfl, ?_⟩
      unfold effAt
      go_simp
      exact ⟨rfl, hC.keep (by kernel_rfl) hD (by rfl) (by rfl) (by rfl) (by rfl)⟩
    simp only [Act.put, List.setIfInBounds_toArray, List.set_cons_zero, List.set_cons_succ]
    apply wpEffT_cons
    focus
      intro B L w9 hL hD hC
      have f9 := hC.all (φ := Fr (· = Y.m) w1 w9) (fun h => Nw.on h) (fun a h => Nw.on h) (fun a b h => Nw.on h.1) (fun a b h => Nw.on h.1) (fun a b h => by obtain ⟨wx, h1, _, h2⟩ := h; exact (Nw.on h1.1).tr h2)
      have hb9 := y1.fr f9 N1.gm
      refine .inl ⟨by rfl, ?_⟩
      exact effAt_cells 56 _ rfl Y.g 0 rfl [.map (some Y.m)] _ (Blk.cells_at (l := [.map (some Y.m)]) hb9 0) Tryz.underlying56 rfl (by kernel_rfl) (hC.keep (by kernel_rfl) hD (by rfl) (by rfl) (by rfl) (by rfl))
    simp only [Act.put, List.setIfInBounds_toArray, List.set_cons_zero, List.set_cons_succ]
    apply wpEffT_cons
    focus
      intro B L w9 hL hD hC
      refine .inl ⟨by rfl, ?_⟩
      unfold effAt
      go_simp
      exact ⟨rfl, hC.keep (by kernel_rfl) hD (by rfl) (by rfl) (by rfl) (by rfl)⟩
    simp only [Act.put, List.setIfInBounds_toArray, List.set_cons_zero, List.set_cons_succ]
    apply wpEffT_cons
    focus
      intro B L w9 hL hD hC
      refine .inl ⟨by rfl, ?_⟩
      unfold effAt
      go_simp
      exact ⟨rfl, hC.keep (by kernel_rfl) hD (by rfl) (by rfl) (by rfl) (by rfl)⟩
    simp only [Act.put, List.setIfInBounds_toArray, List.set_cons_zero, List.set_cons_succ]
    apply wpEffT_cons
    focus
      intro B L w9 hL hD hC
      refine .inl ⟨by rfl, ?_⟩
      unfold effAt
      go_simp
      exact ⟨rfl, hC.keep (by kernel_rfl) hD (by rfl) (by rfl) (by rfl) (by rfl)⟩
    simp only [Act.put, List.setIfInBounds_toArray, List.set_cons_zero, List.set_cons_succ]
    apply wpEffT_cons
    focus
      intro B L w9 hL hD hC
      refine .inl ⟨by rfl, ?_⟩
      unfold effAt
      go_simp
      exact ⟨rfl, hC.keep (by kernel_rfl) hD (by rfl) (by rfl) (by rfl) (by rfl)⟩
    simp only [Act.put, List.setIfInBounds_toArray, List.set_cons_zero, List.set_cons_succ]
    apply wpEffT_cons
    focus
      intro B L w9 hL hD hC
      refine .inl ⟨by rfl, ?_⟩
      unfold effAt
      go_simp
      exact ⟨rfl, hC.keep (by kernel_rfl) hD (by rfl) (by rfl) (by rfl) (by rfl)⟩
    simp only [Act.put, List.setIfInBounds_toArray, List.set_cons_zero, List.set_cons_succ]
    apply wpEffT_cons
    focus
      intro B L w9 hL hD hC
      refine .inl ⟨by rfl, ?_⟩
      unfold effAt
      go_simp
      exact ⟨rfl, hC.keep (by kernel_rfl) hD (by rfl) (by rfl) (by rfl) (by rfl)⟩
    simp only [Act.put, List.setIfInBounds_toArray, List.set_cons_zero, List.set_cons_succ]
    refine wpEffT_free (fun b => .agg (letA x)) ?_ ?_
    focus
      intro B L w9 hL hD hC
      obtain ⟨h1, h2⟩ := hC.call hL (by kernel_rfl) (by kernel_rfl) (by kernel_rfl) (by kernel_rfl) hD (by rfl) (by rfl) (by rfl)
      refine .inl ⟨by rfl, ?_⟩
      exact effUponT_const (vf := fun b => .agg (letA x)) (b := (0, none)) rfl (fun w8 h8 => h2 w8 _ h8) (effAt_cells 50 _ rfl g2 (o2 + m * 20) rfl (letL x) _ (hc w9 h1) Tryz.underlying50 rfl (by kernel_rfl) h1)
    simp only [Act.put, List.setIfInBounds_toArray, List.set_cons_zero, List.set_cons_succ]
    refine wpEffT_free (fun b => .slice (some ⟨b.1, 0, none⟩) 1 1) ?_ ?_
    focus
      intro B L w9 hL hD hC
      obtain ⟨h1, h2⟩ := hC.build hL (hD 10 (by kernel_rfl)) (by kernel_rfl) (by kernel_rfl) (by kernel_rfl) hD (by rfl) (by rfl) (by rfl)
      refine .inl ⟨by rfl, ?_⟩
      unfold effAtT
      go_simp
      exact ⟨(w9.heap.size, none), rfl, h2 (w9.alloc (.cells (letA x) 50)) _ ⟨h1.alloc _, own_new w9 50 20 1 (letL x) (by unfold maxLen; omega) rfl, h1.size⟩⟩
    simp only [Act.put, List.setIfInBounds_toArray, List.set_cons_zero, List.set_cons_succ]
    apply wpEffT_cons
    focus
      intro B L w9 hL hD hC
      refine .inl ⟨by rfl, ?_⟩
      unfold effAt
      go_simp
      exact ⟨rfl, hC.keep (by kernel_rfl) hD (by rfl) (by rfl) (by rfl) (by rfl)⟩
    simp only [Act.put, List.setIfInBounds_toArray, List.set_cons_zero, List.set_cons_succ]
    apply wpEffT_cons
    focus
      intro B L w9 hL hD hC
      refine .inl ⟨by rfl, ?_⟩
      unfold effAt
      go_simp
      exact ⟨rfl, hC.keep (by kernel_rfl) hD (by rfl) (by rfl) (by rfl) (by rfl)⟩
    simp only [Act.put, List.setIfInBounds_toArray, List.set_cons_zero, List.set_cons_succ]
    apply wpEffT_cons
    focus
      intro B L w9 hL hD hC
      refine .inl ⟨by rfl, ?_⟩
      unfold effAt
      go_simp
      exact ⟨rfl, hC.keep (by kernel_rfl) hD (by rfl) (by rfl) (by rfl) (by rfl)⟩
    simp only [Act.put, List.setIfInBounds_toArray, List.set_cons_zero, List.set_cons_succ]
    refine wpEffT_free (fun b => .slice b.2 (1 + m) b.1) ?_ ?_
    focus
      intro B L w9 hL hD hC
      obtain ⟨h1, h2⟩ := hC.app hL (hD 11 (by kernel_rfl)) (by kernel_rfl) (by kernel_rfl) hD (by rfl) (by rfl)
      refine .inl ⟨by rfl, ?_⟩
      refine effAtT_append _ _ 28 rfl 256 (.agg #[U8V 0, I64 0, I64 0, I64 0, I64 0, I64 0, I64 0, I64 0, .bool false, .slice none 0 0, I64 0, I64 0, .slice none 0 0, .slice none 0 0, .slice none 0 0, .slice none 0 0, I64 0, I64 0, I64 0, .slice none 0 0]) Tryz.underlying28 info_let (by rfl) (by omega) rfl h1.2.1 rfl (si1.fr h1.1 (fun _ _ h => h)) (by rw [letsC_len, HM.out]) (letsC_cell _) (by omega) (by unfold maxLen; omega) (fun A' cap' w' hA => ⟨(cap', A'), rfl, h2 _ _ ?_⟩)
      have hAn : ∀ k, inA (some ⟨(B 11).1, 0, none⟩) k → w1.heap.size ≤ k := fun k hk => by rw [(inA_some _ _).1 hk]; exact h1.2.2
      exact ⟨h1.1.new hA.fr hAn, hA.1, fun k hk => (hA.inA_ k hk).elim (hAn k) (fun e => by have := h1.1.size; omega)⟩
    simp only [Act.put, List.setIfInBounds_toArray, List.set_cons_zero, List.set_cons_succ]
    apply wpEffT_cons
    focus
      intro B L w9 hL hD hC
      obtain ⟨h1, h2⟩ := hC.store hL (hD 15 (by kernel_rfl)) (by kernel_rfl) hD
      have hset := netSet_put w9 Y.m Y.s _ (m1.fr h1.1 (fun h => h)) (by unfold maxLen; omega) (a, b) hn (B 15).2 (1 + m) (B 15).1 (by omega)
      refine .inl ⟨by rfl, ?_⟩
      unfold effAt
      go_simp
      refine hset.mono ?_
      rintro e w8 ⟨rfl, hM8, f8⟩
      exact ⟨rfl, h2 _ ⟨w9, h1, hM8, f8⟩⟩
    simp only [Act.put, List.setIfInBounds_toArray, List.set_cons_zero, List.set_cons_succ]
    refine wpEffT_nil fun B wf hC => ?_
    have hfin := hC.fin (by rfl)
    obtain ⟨⟨c', A'⟩, hb⟩ : ∃ b, b = B 15 := ⟨_, rfl⟩
    rw [← hb] at hfin
    clear hC hb
    obtain ⟨wx, hs3, hMf, hff⟩ := hfin
    obtain ⟨q3, o3, b3⟩ := hs3
    dsimp only at o3 b3 hMf
    have e5 : 1 + m = (x :: i).length := by rw [List.length_cons, HM.out]; omega
    rw [e5] at o3 hMf
    obtain ⟨O', Y', N', eg', em', ep', es', f', hO'⟩ := (hL.nw q1).own_ (l' := x :: i) N1 q3 hmem (by simp) (by rw [← e5]; omega) o3 b3 hMf hff
    have HN' := Lib.hid N'
    have HE' := Lib.hid ep'
    clear N' ep' o3 b3 hMf e5
    go_wp2_with fail
    go_ret
    have h1 := q1.size
    exact ⟨rfl, O', Y', HN'.out, eg', em', HE'.out, by omega, (Nw.on q1).tr f', fun k hk => (hO' k hk).imp id (fun h => by omega)⟩
end Go.Proofs.YtippdjaakcgeoaaGreat
