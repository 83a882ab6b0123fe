/- Lemmas of the walks: LsA, NoJ, DnA, NoN, RgA. (Laid together by shake.py.) -/
import Derived.Test.YtippdjaakcgeoaaGreatNe03
import Derived.Test.YtippdjaakcgeoaaGreatNe04
import Derived.Test.YtippdjaakcgeoaaGreatNe05
import Derived.Test.YtippdjaakcgeoaaGreatNe06
set_option linter.unusedVariables false
set_option linter.unusedSimpArgs false
namespace Go.Proofs.YtippdjaakcgeoaaGreat
open Go Go.RowKit
section
variable {E : TypeId} {ok : Value → Prop} {w w' : World} {A : Option Addr} {n : Nat} {S : Nat → Prop}
end
theorem EntSz.of_eq {x y : EntM} (h : y.x = x.x) (hz : EntSz x) : EntSz y := by
  have h1 : y.cmd.l = x.cmd.l := congrArg Ent.cmd h
  have h2 : y.cfg.x = x.cfg.x := congrArg Ent.cfg h
  have a1 : y.cfg.v.l = x.cfg.v.l := congrArg Cfg.v h2
  have a2 : y.cfg.o.l = x.cfg.o.l := congrArg Cfg.o h2
  have a3 : y.cfg.l.l = x.cfg.l.l := congrArg Cfg.l h2
  have a4 : y.cfg.w.l = x.cfg.w.l := congrArg Cfg.w h2
  exact ⟨by rw [h1]; exact hz.cmd, ⟨by rw [a1]; exact hz.cfg.v, by rw [a2]; exact hz.cfg.o, by rw [a3]; exact hz.cfg.l, by rw [a4]; exact hz.cfg.w⟩⟩
theorem LetSz.of_eq {x y : LetM} (h : y.x = x.x) (hz : LetSz x) : LetSz y := by
  have h1 : y.ents.l.map EntM.x = x.ents.l.map EntM.x := congrArg LetF.ents h
  have h2 : y.base.cfg.x = x.base.cfg.x := congrArg (fun z : LetF => z.base.cfg) h
  have h3 : y.bytes.l = x.bytes.l := congrArg LetF.bytes h
  have a1 : y.base.cfg.v.l = x.base.cfg.v.l := congrArg Cfg.v h2
  have a2 : y.base.cfg.o.l = x.base.cfg.o.l := congrArg Cfg.o h2
  have a3 : y.base.cfg.l.l = x.base.cfg.l.l := congrArg Cfg.l h2
  have a4 : y.base.cfg.w.l = x.base.cfg.w.l := congrArg Cfg.w h2
  have hl : y.ents.l.length = x.ents.l.length := by simpa using congrArg List.length h1
  refine ⟨by rw [hl]; exact hz.ents, fun e he => ?_, ⟨by rw [a1]; exact hz.cfg.v, by rw [a2]; exact hz.cfg.o, by rw [a3]; exact hz.cfg.l, by rw [a4]; exact hz.cfg.w⟩, by rw [h3]; exact hz.bytes⟩
  have hm : e.x ∈ x.ents.l.map EntM.x := by rw [← h1]; exact List.mem_map.2 ⟨e, he, rfl⟩
  obtain ⟨f, hf, hfe⟩ := List.mem_map.1 hm
  exact EntSz.of_eq hfe.symm (hz.each f hf)
end Go.Proofs.YtippdjaakcgeoaaGreat

namespace Go.Proofs.YtippdjaakcgeoaaGreat
open Go Go.RowKit
set_option linter.unusedVariables false
set_option linter.unusedSimpArgs false
theorem szs_eq {li l : List LetM} (h : li.map LetM.x = l.map LetM.x) (hz : ∀ e ∈ l, LetSz e) : ∀ e ∈ li, LetSz e := fun e he => by
  have h1 : e.x ∈ l.map LetM.x := by rw [← h]; exact List.mem_map.2 ⟨e, he, rfl⟩
  obtain ⟨y, hy, h2⟩ := List.mem_map.1 h1
  exact LetSz.of_eq h2.symm (hz y hy)
theorem oks_eq {li l : List LetM} {n : Nm} (h : li.map LetM.x = l.map LetM.x) (hz : ∀ e ∈ l, letOk e.x = true ∧ (e.src, e.dst) = n) : ∀ e ∈ li, letOk e.x = true ∧ (e.src, e.dst) = n := fun e he => by
  have h1 : e.x ∈ l.map LetM.x := by rw [← h]; exact List.mem_map.2 ⟨e, he, rfl⟩
  obtain ⟨y, hy, h2⟩ := List.mem_map.1 h1
  obtain ⟨h3, h4⟩ := hz y hy
  refine ⟨by rw [← h2]; exact h3, ?_⟩
  have h5 : (e.x.src, e.x.dst) = (y.x.src, y.x.dst) := by rw [h2]
  exact h5.trans h4
def cpS1 (W : World) (s : Ls LetM) (t : Option Addr × Nat × List LetM) (wz : World) : Prop :=
  t.2.2.map LetM.x = s.l.map LetM.x ∧ Own wz 50 20 t.1 s.l.length t.2.1 (letsC t.2.2) ∧ LetsHd wz (fun k => Since W k ∧ ¬ inA t.1 k) t.2.2 ∧ Nw W wz ∧ ∀ k, inA t.1 k → W.heap.size ≤ k
def cpS2 (W : World) (s : Ls LetM) (Y2 : NetM) (n : Nm) (t : Option Addr × Nat × List LetM) (wz : World) : Prop :=
  ∃ wy, cpS1 W s t wy ∧ WayMap wz Y2.m (Y2.s + 1) (setW (fun x => (Y2.f x).map Ls.v) n (some (.slice t.1 s.l.length t.2.1))) ∧ Fr (· = Y2.m) wy wz
def copyR (w : World) (Y : NetM) (r g2 m2 : Nat) (wr : World) : Prop :=
  ∃ (vs : List Nm) (cnt : Nat) (O2 I2 : Nat → Prop) (Y2 : NetM), vs.Nodup ∧ MapRg Tryz.prog 90 wr Y.m r Y.s (fun n => (Y.f n).map Ls.v) vs cnt ∧ IsNet wr O2 I2 Y2 ∧ Y2.g = g2 ∧ Y2.m = m2 ∧ Y2.s + cnt ≤ Y.s ∧ (∀ n, (n ∈ vs → Y2.p n = Y.p n) ∧ (n ∉ vs → Y2.f n = none)) ∧ Nw w wr ∧ (∀ k, O2 k → w.heap.size ≤ k ∧ k ≠ r) ∧ ∀ k, I2 k → w.heap.size ≤ k ∧ k ≠ r
set_option maxRecDepth 100000 in
set_option maxHeartbeats 8000000 in
theorem netCopy_any (w : World) (O I : Nat → Prop) (Y : NetM) (h : IsNet w O I Y) (hys : Y.s < 1000000000) :
    Calls Tryz.prog 12 #[.pointer (some ⟨Y.g, 0, none⟩)] w fun e w' => ∃ O' I' Y', e = .returned (.pointer (some ⟨Y'.g, 0, none⟩)) ∧ IsNet w' O' I' Y' ∧ (∀ n, Y'.p n = Y.p n) ∧ Y'.s ≤ Y.s ∧ Nw w w' ∧ (∀ k, O' k → w.heap.size ≤ k) ∧ ∀ k, I' k → w.heap.size ≤ k := by
  have hb := h.blk
  have hnew := netNew_any w
  obtain ⟨g2, hg2⟩ : ∃ g, g = w.heap.size + 1 := ⟨_, rfl⟩
  obtain ⟨m2, hm2⟩ : ∃ m, m = w.heap.size := ⟨_, rfl⟩
  rw [← hg2, ← hm2] at hnew
  have HG2 := Lib.hid hg2
  have HM2 := Lib.hid hm2
  clear hg2 hm2
  go_enter Tryz.func12, Tryz.ntmps12
  go_upto_region 4 with (first | (go_at_call 49; refine (netKnown_yes _ Y.g Y.m hb).mono ?_; rintro e w' ⟨rfl, rfl⟩) | (go_at_call 10; refine hnew.mono ?_; rintro e wa ⟨rfl, nb, nm, qa⟩))
  have hA := h.nw qa
  have hM := hA.map
  have g0 : wa.cell? ⟨Y.g, 0, none⟩ = some (.map (some Y.m)) := by simpa using hA.blk.cell 0
  obtain ⟨r, hr⟩ : ∃ r, r = wa.heap.size := ⟨_, rfl⟩
  have hrg : g2 ≠ r ∧ m2 ≠ r := ⟨by have := nb.lt; omega, by have := nm.lt; omega⟩
  go_wp2_with (at_range; refine wl_rangeW rfl _ 54 rfl 90 28 no_way Tryz.underlying54 Y.m Y.s _ rfl hM ?_; rw [← hr]; intro w0 cnt0 hc0 hrg0 q0 hs0; have HR := Lib.hid hr; clear hr hs0)
  go_frame
  go_loopw [5] (fun v wr => copyR w Y r g2 m2 wr) (fun _ wr => wr.rangeLeft Y.m r)
  case atStart =>
    refine ⟨[], cnt0, fun k => k = g2 ∨ k = m2, fun _ => False, ⟨g2, m2, 0, fun _ => none⟩, List.nodup_nil, hrg0, ⟨nb.fr q0 (fun h => h), nm.fr q0 (fun h => h), (by intro n s hs; cases hs), (by intro n n' s s' hs; cases hs), .inl rfl, .inr rfl, fun _ _ h => h, ?_, fun _ h => h.elim⟩, rfl, rfl, by show 0 + cnt0 ≤ Y.s; omega, fun n => ⟨fun hn => (by cases hn), fun _ => rfl⟩, qa.tr q0, ?_, fun _ h => h.elim⟩
    · have := nb.lt; have := nm.lt; have := q0.size
      rintro k (rfl | rfl) <;> omega
    · have := HG2.out; have := HM2.out
      rintro k (rfl | rfl)
      · exact ⟨by omega, hrg.1⟩
      · exact ⟨by omega, hrg.2⟩
  case round =>
    obtain ⟨vs, cnt, O2, I2, Y2, hnd, hrg1, hN2, eg, em, hcs, hvs, hq, hO2, hI2⟩ := hrel
    subst eg
    subst em
    have HVS := Lib.hid hvs
    clear hvs
    have hrne := hrg1.ne
    have HLF := Lib.hid hrg1.left_eq
    have hrO : ¬ O2 r := fun h => (hO2 r h).2 rfl
    have hrI : ¬ I2 r := fun h => (hI2 r h).2 rfl
    have hNr := h.nw hq
    have hHO2 := Lib.hid hO2
    have hHI2 := Lib.hid hI2
    clear hO2 hI2
    go_wp2_with (at_next; refine wl_nextW rfl _ rfl 90 no_way Y.m r Y.s _ vs cnt rfl hrg1 ?_ ?_)
    · intro hcd hall
      have hfin : ∀ n, Y2.p n = Y.p n := fun n => by
        by_cases hn : n ∈ vs
        · exact (HVS.out n).1 hn
        · rw [NetM.p_none ((HVS.out n).2 hn)]
          cases hf : Y.f n with
          | none => rw [NetM.p_none hf]
          | some s => exact (hn (hall _ _ (h.link _ _ hf).wf (by simp [hf]))).elim
      have HF := Lib.hid hfin
      clear hrg1 hfin hall
      go_wp2_with fail
      go_ret
      exact ⟨O2, I2, Y2, rfl, hN2, HF.out, by omega, hq, fun k hk => (hHO2.out k hk).1, fun k hk => (hHI2.out k hk).1⟩
    · intro n1 n2 v w1 cnt1 hn s hf hsv hnot hrg2 hlt f1 hs1 hen
      subst hsv
      have HS1 := Lib.hid hs1
      clear hs1
      have HF := Lib.hid hf
      have HNT := Lib.hid hnot
      clear hf hnot
      have hrw : w.heap.size ≤ r := by rw [HR.out]; exact qa.size
      have hOr : ∀ k, O k → ¬ k = r := fun k hk e => by have := h.ol _ hk; omega
      have hIr : ∀ k, I k → ¬ k = r := fun k hk e => by have := h.il _ hk; omega
      have N1 := hNr.fr f1 hOr hIr
      have N2 := hN2.fr f1 (fun k hk e => hrO (e ▸ hk)) (fun k hk e => hrI (e ▸ hk))
      have K1 := N1.link _ _ HF.out
      obtain ⟨D, hD⟩ : ∃ D, D = w1.heap.size := ⟨_, rfl⟩
      obtain ⟨W2, hW2⟩ : ∃ W, W = w1.alloc (.cells #[I64 n1, I64 n2] 90) := ⟨_, rfl⟩
      have q2 : Nw w1 W2 := by rw [hW2]; exact (Fr.refl (fun _ => False) _).alloc _
      have bD : Blk W2 D 90 #[I64 n1, I64 n2] := by rw [hW2, hD]; exact Blk.new _ _ _
      have N1W := N1.nw q2
      have N2W := N2.nw q2
      have bG := N2W.blk
      have K2 := N1W.link _ _ HF.out
      have hcp : ∀ wz, Nw W2 wz → _ := fun wz q => copied_any wz (fun _ => True) s.a s.c s.l ((K2.own.sl.fr q (fun _ _ h => h)).mono (fun _ _ _ => trivial)) (fun x hx => ((K2.each x hx).nw q).mono (fun _ _ _ => trivial)) K2.sz (by have := K2.most; omega)
      have HD := Lib.hid hD
      have HW2 := Lib.hid hW2
      clear hD hW2
      go_upto_region 7 with (fail)
      rw [← HW2.out, ← HD.out]
      refine wp_region_two (T := Option Addr × Nat × List LetM) 6 7 (fun wz => Nw W2 wz) (cpS1 W2 s) (cpS2 W2 s Y2 (n1, n2)) (fun _ => (none, 0, [])) (by kernel_rfl) (by kernel_rfl) ((Fr.refl (fun _ => False) W2).drew) ?_
      apply wpEffT_cons
      focus
        intro B L wz hL hD hC
        refine .inl ⟨by rfl, ?_⟩
        unfold effAt
        go_simp
        exact ⟨rfl, hC.keep (by kernel_rfl) hD (by rfl) (by rfl)⟩
      simp only [Act.put, List.setIfInBounds_toArray, List.set_cons_zero, List.set_cons_succ]
      apply wpEffT_cons
      focus
        intro B L wz hL hD hC
        refine .inl ⟨by rfl, ?_⟩
        unfold effAt
        go_simp
        exact ⟨rfl, hC.keep (by kernel_rfl) hD (by rfl) (by rfl)⟩
      simp only [Act.put, List.setIfInBounds_toArray, List.set_cons_zero, List.set_cons_succ]
      apply wpEffT_cons
      focus
        intro B L wz hL hD hC
        refine .inl ⟨by rfl, ?_⟩
        unfold effAt
        go_simp
        exact ⟨rfl, hC.keep (by kernel_rfl) hD (by rfl) (by rfl)⟩
      simp only [Act.put, List.setIfInBounds_toArray, List.set_cons_zero, List.set_cons_succ]
      apply wpEffT_cons
      focus
        intro B L wz hL hD hC
        have hq9 : Nw W2 wz := hC.early hL (by kernel_rfl) (fun h => h) (fun _ h => h.2.2.2.1)
        have hb9 := bG.fr hq9 (fun h => h)
        refine .inl ⟨by rfl, ?_⟩
        exact effAt_cells 56 _ rfl Y2.g 0 rfl [.map (some Y2.m)] _ (Blk.cells_at (l := [.map (some Y2.m)]) hb9 0) Tryz.underlying56 rfl (by kernel_rfl) (hC.keep (by kernel_rfl) hD (by rfl) (by rfl))
      simp only [Act.put, List.setIfInBounds_toArray, List.set_cons_zero, List.set_cons_succ]
      apply wpEffT_cons
      focus
        intro B L wz hL hD hC
        have hq9 : Nw W2 wz := hC.early hL (by kernel_rfl) (fun h => h) (fun _ h => h.2.2.2.1)
        have hb9 := bD.fr hq9 (fun h => h)
        refine .inl ⟨by rfl, ?_⟩
        exact effAt_cells 90 _ rfl D 0 rfl [I64 n1, I64 n2] _ (Blk.cells_at (l := [I64 n1, I64 n2]) hb9 0) Tryz.underlying90 rfl (by kernel_rfl) (hC.keep (by kernel_rfl) hD (by rfl) (by rfl))
      simp only [Act.put, List.setIfInBounds_toArray, List.set_cons_zero, List.set_cons_succ]
      apply wpEffT_cons
      focus
        intro B L wz hL hD hC
        refine .inl ⟨by rfl, ?_⟩
        unfold effAt
        go_simp
        exact ⟨rfl, hC.keep (by kernel_rfl) hD (by rfl) (by rfl)⟩
      simp only [Act.put, List.setIfInBounds_toArray, List.set_cons_zero, List.set_cons_succ]
      refine wpEffT_free (fun b => .slice b.1 s.l.length b.2.1) ?_ ?_
      focus
        intro B L wz hL hD hC
        obtain ⟨h1, h2⟩ := hC.call hL (by kernel_rfl) (by kernel_rfl) hD (by rfl)
        refine .inl ⟨by rfl, ?_⟩
        unfold effAtT
        go_simp
        refine (hcp _ h1).mono ?_
        rintro e w9 ⟨A', c', ys, rfl, ey, ho, hh, q9, hb9⟩
        exact ⟨(A', c', ys), rfl, h2 _ _ ⟨ey, ho, hh.mono (fun k hk _ => ⟨Nat.le_trans h1.size hk.1, hk.2⟩), h1.tr q9, fun k hk => Nat.le_trans h1.size (hb9 k hk)⟩⟩
      simp only [Act.put, List.setIfInBounds_toArray, List.set_cons_zero, List.set_cons_succ]
      apply wpEffT_cons
      focus
        intro B L wz hL hD hC
        obtain ⟨h1, h2⟩ := hC.last hL (hD 6 (by kernel_rfl)) (by kernel_rfl) hD
        have hset := netSet_put wz Y2.m Y2.s _ (N2W.map.fr h1.2.2.2.1 (fun h => h)) (by unfold maxLen; omega) (n1, n2) hn (B 6).1 s.l.length (B 6).2.1 K2.some_
        refine .inl ⟨by rfl, ?_⟩
        unfold effAt
        go_simp
        refine hset.mono ?_
        rintro e w9 ⟨rfl, hM9, f9⟩
        exact ⟨rfl, h2 _ ⟨wz, h1, hM9, f9⟩⟩
      simp only [Act.put, List.setIfInBounds_toArray, List.set_cons_zero, List.set_cons_succ]
      refine wpEffT_nil fun B wz hC => ?_
      have hfin := hC.fin (by rfl)
      obtain ⟨⟨A, c, ys⟩, hB⟩ : ∃ t, t = B 6 := ⟨_, rfl⟩
      rw [← hB] at hfin ⊢
      clear hB hC hcp
      obtain ⟨wy, h5, hM5, f5⟩ := hfin
      obtain ⟨ey, ho5, hh5, q5, hb5⟩ := h5
      dsimp only at ey ho5 hh5 hb5 hM5
      have e3 : ys.length = s.l.length := by simpa using congrArg List.length ey
      have hW2 := N2W.map.lt
      have hsz5 := q5.size
      have hsf5 := f5.size
      have hyl := ho5.lt
      have N5 := N2W.nw q5
      have hAm : ∀ k, inA A k → ¬ k = Y2.m := fun k hk e => by have := hb5 k hk; omega
      have hIm : ∀ k, I2 k → ¬ k = Y2.m := fun k hk e => N5.dis _ N5.om (e ▸ hk)
      have N6 := N5.set (n := (n1, n2)) (v := some ⟨A, c, ys⟩) (O' := fun k => O2 k ∨ inA A k) (I' := fun k => I2 k ∨ (Since W2 k ∧ ¬ inA A k ∧ k < wy.heap.size)) (s' := Y2.s + 1) (w' := wz) (by show WayMap wz Y2.m _ (setW _ _ (some (.slice A ys.length c))); rw [e3]; exact hM5) f5 N5.gm
        (fun n' t _ ht k hk => (N5.link n' t ht).off_map N5.map k hk) hIm (fun _ h => .inl h) (fun _ h => .inl h)
        (fun k h8 h9 => by
          rcases h8 with h8 | h8 <;> rcases h9 with h9 | h9
          · exact N5.dis _ h8 h9
          · have := N2W.ol _ h8; have := h9.1; unfold Since at this; omega
          · have := N2W.il _ h9; have := hb5 _ h8; omega
          · exact h9.2.1 h8)
        (fun k h8 => by
          rcases h8 with h8 | h8
          · have := N5.ol _ h8; omega
          · have := hyl _ h8; omega)
        (fun k h8 => by
          rcases h8 with h8 | h8
          · have := N5.il _ h8; omega
          · have := h8.2.2; omega)
        (fun t ht => by
          injection ht with ht
          subst ht
          refine ⟨⟨by show OwnO wz 50 20 A ys.length c (letsC ys); rw [e3]; exact ho5.o.fr f5 hAm, fun k hk => .inr hk, by show 0 < ys.length; rw [e3]; exact K2.some_, by show ys.length ≤ 40; rw [e3]; exact K2.most, fun x hx => ?_, szs_eq ey K2.sz, oks_eq ey K2.ok⟩, fun n' t' _ ht' k h8 h9 => ?_⟩
          · exact ((hh5.each x hx).mono (F' := fun k => I2 k ∨ (Since W2 k ∧ ¬ inA A k ∧ k < wy.heap.size)) (fun k hk hl => .inr ⟨hk.1, hk.2, hl⟩)).fr f5 (fun k hk e => by
              rcases hk with hk | hk
              · exact hIm k hk e
              · have := hk.1; unfold Since at this; omega)
          · have h10 := N2W.ol _ ((N2W.link n' t' ht').base k h9)
            have := hb5 k h8
            omega)
      have hYm : Y.m < w.heap.size := h.map.lt
      have hrl := hrg2.lt
      have hrm : ¬ r = Y2.m := fun e => hrO (e ▸ N5.om)
      have hYY : ¬ Y.m = Y2.m := fun e => by have := (hHO2.out _ N5.om).1; omega
      have R6 := ((hrg2.fr q2 (fun h => h) (fun h => h)).fr q5 (fun h => h) (fun h => h)).fr f5 hYY hrm
      have hq2 := q2.size
      have Q6 : Nw w wz := (((hq.new f1 (fun b hb => by omega)).tr q2).tr q5).new f5 (fun b hb => by have := (hHO2.out _ N5.om).1; omega)
      have HN6 := Lib.hid N6
      have HR6 := Lib.hid R6
      have hww := hq.size
      have hf1s := f1.size
      clear N6 R6 hM5 N5 N2W N1W N2 N1 hrg1 hrg2 hNr
      go_roundw
      case rel =>
        refine ⟨_, _, _, _, _, _, _, _, _, _, _, _, _, _, _, ?_, rfl⟩
        refine ⟨(n1, n2) :: vs, cnt1, _, _, _, List.nodup_cons.2 ⟨HNT.out, hnd⟩, HR6.out, HN6.out, rfl, rfl, by show Y2.s + 1 + cnt1 ≤ Y.s; omega, fun n => ⟨fun hn' => ?_, fun hn' => ?_⟩, Q6, fun k hk => ?_, fun k hk => ?_⟩
        · by_cases he : n = (n1, n2)
          · subst he
            rw [NetM.p_some (s := ⟨A, c, ys⟩) (by simp [setF]), NetM.p_some HF.out]
            exact ey
          · have h8 : n ∈ vs := (List.mem_cons.1 hn').resolve_left he
            rw [← (HVS.out n).1 h8]
            unfold NetM.p
            simp [setF, he]
        · have he : n ≠ (n1, n2) := fun e => hn' (by rw [e]; exact List.mem_cons_self)
          have h8 : n ∉ vs := fun h9 => hn' (List.mem_cons_of_mem _ h9)
          simp [setF, he, (HVS.out n).2 h8]
        · rcases hk with hk | hk
          · exact hHO2.out k hk
          · have := hb5 k hk
            exact ⟨by omega, by omega⟩
        · rcases hk with hk | hk
          · exact hHI2.out k hk
          · have := hk.1
            unfold Since at this
            exact ⟨by omega, by omega⟩
      case measure =>
        rw [HR6.out.left_eq, HLF.out]
        exact hlt
end Go.Proofs.YtippdjaakcgeoaaGreat

namespace Go.Proofs.YtippdjaakcgeoaaGreat
open Go Go.RowKit
set_option linter.unusedVariables false
set_option linter.unusedSimpArgs false

/-- A net of the document: where it lies, its row of letters. -/
structure DocM where
  g : Nat
  r : Ls LetM
abbrev DocM.L (D : DocM) : List LetF := D.r.l.map LetM.x
structure IsDoc (w : World) (O I : Nat → Prop) (D : DocM) : Prop where
  blk : Blk w D.g 30 #[D.r.v]
  own : Own w 50 20 D.r.a D.r.l.length D.r.c (letsC D.r.l)
  base : ∀ k, inA D.r.a k → O k
  each : ∀ x ∈ D.r.l, LetIn w I x
  sz : ∀ x ∈ D.r.l, LetSz x
  og : O D.g
  dis : ∀ k, O k → ¬ I k
  ol : ∀ k, O k → k < w.heap.size
  il : ∀ k, I k → k < w.heap.size
section
variable {w w' : World} {O O' I I' S : Nat → Prop} {D : DocM}
theorem IsDoc.fr (h : IsDoc w O I D) (hf : Fr S w w') (hO : ∀ k, O k → ¬ S k) (hI : ∀ k, I k → ¬ S k) : IsDoc w' O I D :=
  ⟨h.blk.fr hf (hO _ h.og), h.own.fr hf (fun k hk => hO k (h.base k hk)), h.base, fun x hx => (h.each x hx).fr hf hI, h.sz, h.og, h.dis, fun k hk => Nat.lt_of_lt_of_le (h.ol k hk) hf.size, fun k hk => Nat.lt_of_lt_of_le (h.il k hk) hf.size⟩
theorem IsDoc.nw (h : IsDoc w O I D) (hf : Nw w w') : IsDoc w' O I D := h.fr hf (fun _ _ h => h) (fun _ _ h => h)
theorem IsDoc.grow (h : IsDoc w O I D) (hO : ∀ k, O k → O' k) (hI : ∀ k, I k → I' k) (hd : ∀ k, O' k → ¬ I' k) (hOl : ∀ k, O' k → k < w.heap.size) (hIl : ∀ k, I' k → k < w.heap.size) : IsDoc w O' I' D :=
  ⟨h.blk, h.own, fun k hk => hO k (h.base k hk), fun x hx => (h.each x hx).mono (fun k hk _ => hI k hk), h.sz, hO _ h.og, hd, hOl, hIl⟩
theorem IsDoc.ga (h : IsDoc w O I D) : ¬ inA D.r.a D.g := h.own.ne_ h.blk (by decide)
end
end Go.Proofs.YtippdjaakcgeoaaGreat

namespace Go.Proofs.YtippdjaakcgeoaaGreat
open Go Go.RowKit
set_option linter.unusedVariables false
/-- An append to a list of the call's own, from any place of its block, in a drawn region. -/
theorem effAtT_appendO {P : Program} {T : Type} {E : TypeId} {z n cap : Nat} {A : Option Addr} {cs : List Value} {F : Nat → Prop} {w : World} {o : Oper} {a : Act} {vf : T → Value} {K : T → World → Prop} (s x : Operand) (t : TypeId)
    (ho : o.op = .call { callee := .builtin .append, args := #[s, x], argTypes := #[t, t] }) (bytes : Nat) (zv : Value) (ht : P.underlying t = some (.slice E))
    (hinfo : (P.info? E).map (fun i => (i.zero, i.size, i.bytes)) = some (some zv, z, bytes)) (hzs : zv.cells.size = z) (hsz : 0 < z)
    (hs : a.eval s = .slice A n cap) (hown : OwnO w E z A n cap cs) {A2 : Option Addr} {m c : Nat} {news : List Value} (hx : a.eval x = .slice A2 m c) (hsl : Sl w F A2 news) (hl : news.length = m * z) (h1 : ∀ u ∈ news, u.oneCell' = true)
    (hbytes : (n + m) * bytes ≤ 140737488355328) (hmax : n + m ≤ maxLen) (hm : 0 < m)
    (h : ∀ A' cap' w', AppO w E z A n cap m cs news A' cap' w' → ∃ b, .slice A' (n + m) cap' = vf b ∧ K b w') : effAtT P o a vf K w := by
  obtain ⟨A', cap', w', hrun, h2⟩ := run_append_o (P := P) w t o.type bytes zv ht hinfo hzs hsz hown hsl hl h1 hbytes hmax hm (c := c)
  unfold effAtT execOp
  simp only [ho, resolve, invoke, builtin, Sem.run_bind, Sem.run_pure, Result.andThen_ok, List.map_toArray, List.map_cons, List.map_nil, hs, hx]
  rw [hrun]
  exact h A' cap' w' h2
/-- What waits on a link, or nothing: where it lies. -/
structure LinkOr (w : World) (O I : Nat → Prop) (Y : NetM) (n : Nm) (A : Option Addr) (c : Nat) (l : List LetM) : Prop where
  val : ((Y.f n).map Ls.v).getD nilLets = .slice A l.length c
  p : l.map LetM.x = Y.p n
  own : OwnO w 50 20 A l.length c (letsC l)
  base : ∀ k, inA A k → O k
  ne : ∀ k, inA A k → k ≠ Y.m ∧ k ≠ Y.g
  most : l.length ≤ 40
  each : ∀ x ∈ l, LetIn w I x
  sz : ∀ x ∈ l, LetSz x
  ok : ∀ x ∈ l, letOk x.x = true ∧ (x.src, x.dst) = n
  far : ∀ n' t, n' ≠ n → Y.f n' = some t → ∀ k, inA A k → ¬ inA t.a k
theorem IsNet.link_or {w : World} {O I : Nat → Prop} {Y : NetM} (h : IsNet w O I Y) (n : Nm) : ∃ A c l, LinkOr w O I Y n A c l := by
  cases hf : Y.f n with
  | none => exact ⟨none, 0, [], by rw [hf]; rfl, (NetM.p_none hf).symm, OwnO.nil _ _ _, fun k hk => (inA_none k hk).elim, fun k hk => (inA_none k hk).elim, Nat.zero_le _, (by intro x hx; cases hx), (by intro x hx; cases hx), (by intro x hx; cases hx), fun _ _ _ _ k hk => (inA_none k hk).elim⟩
  | some s =>
    have K := h.link n s hf
    refine ⟨s.a, s.c, s.l, by rw [hf]; rfl, (NetM.p_some hf).symm, K.own, K.base, fun k hk => ⟨K.off_map h.map k hk, fun e => ?_⟩, K.most, K.each, K.sz, K.ok, fun n' t hn ht => h.far n n' s t hf ht (fun e => hn e.symm)⟩
    subst e
    exact K.own.ne_ h.blk (by decide) hk
theorem LinkOr.nw {w w' : World} {O I : Nat → Prop} {Y : NetM} {n : Nm} {A : Option Addr} {c : Nat} {l : List LetM} (h : LinkOr w O I Y n A c l) (q : Nw w w') : LinkOr w' O I Y n A c l :=
  ⟨h.val, h.p, h.own.fr q (fun _ _ h => h), h.base, h.ne, h.most, fun x hx => (h.each x hx).nw q, h.sz, h.ok, h.far⟩
/-- What a net is behind a letter put on a link. -/
theorem LinkOr.put {w wy wx w' : World} {O I : Nat → Prop} {Y : NetM} {n : Nm} {A A' : Option Addr} {c c' : Nat} {l : List LetM} (h : IsNet w O I Y) (hs : LinkOr w O I Y n A c l) (q : Nw w wy) (y : LetM) (iy : LetIn wy (Since w) y) (sy : LetSz y) (oy : letOk y.x = true ∧ (y.src, y.dst) = n) (hlt : l.length < 40)
    (ha : AppO wy 50 20 A l.length c 1 (letsC l) (letL y) A' c' wx) (hM : WayMap w' Y.m (Y.s + 1) (setW (fun x => (Y.f x).map Ls.v) n (some (.slice A' (l.length + 1) c')))) (hf : Fr (· = Y.m) wx w') :
    ∃ O' I' Y', IsNet w' O' I' Y' ∧ Y'.g = Y.g ∧ Y'.m = Y.m ∧ Y'.p = (fun m => if m = n then Y.p n ++ [y.x] else Y.p m) ∧ Y'.s = Y.s + 1 ∧ Fr O w w' ∧ (∀ j, O' j → O j ∨ w.heap.size ≤ j) ∧ ∀ j, I' j → I j ∨ w.heap.size ≤ j := by
  have N5 := h.nw q
  have hq := q.size
  have hax := ha.fr.size
  have hfs := hf.size
  have hAw : ∀ k, inA A k → k < w.heap.size := fun k hk => h.ol k (hs.base k hk)
  have hA' : ∀ k, inA A' k → (inA A k ∨ k = wy.heap.size) := ha.inA_
  have hF : Fr (fun k => inA A k ∨ k = Y.m) wy w' := (ha.fr.mono fun _ h => .inl (.inl h)).tr (hf.mono fun _ h => .inl (.inr h))
  have hA'm : ∀ k, inA A' k → ¬ k = Y.m := fun k hk e => by
    rcases hA' k hk with h1 | h1
    · exact (hs.ne k h1).1 e
    · have := h.map.lt; omega
  have hIs : ∀ k, I k → ¬ (inA A k ∨ k = Y.m) := fun k hk e => by
    rcases e with e | e
    · exact h.dis k (hs.base k e) hk
    · exact h.dis _ h.om (e ▸ hk)
  have hA'l : ∀ k, inA A' k → k < wx.heap.size := ha.1.lt
  have N6 := N5.set (n := n) (v := some ⟨A', c', l ++ [y]⟩) (O' := fun k => O k ∨ inA A' k) (I' := fun k => I k ∨ (Since w k ∧ k < wy.heap.size)) (s' := Y.s + 1) (w' := w') (by show WayMap w' Y.m _ (setW _ _ (some (.slice A' (l ++ [y]).length c'))); rw [List.length_append, List.length_singleton]; exact hM) hF
    (fun e => by
      rcases e with e | e
      · exact (hs.ne _ e).2 rfl
      · exact h.gm e)
    (fun n' t hn ht k hk e => by
      rcases e with e | e
      · exact hs.far n' t hn ht k e hk
      · exact (N5.link n' t ht).off_map N5.map k hk e)
    hIs (fun _ h => .inl h) (fun _ h => .inl h)
    (fun k h8 h9 => by
      rcases h8 with h8 | h8 <;> rcases h9 with h9 | h9
      · exact h.dis _ h8 h9
      · have := h.ol _ h8; have := h9.1; unfold Since at this; omega
      · rcases hA' k h8 with h1 | h1
        · exact h.dis _ (hs.base k h1) h9
        · have := h.il _ h9; omega
      · rcases hA' k h8 with h1 | h1
        · have := hAw k h1; have := h9.1; unfold Since at this; omega
        · have := h9.2; omega)
    (fun k h8 => by
      rcases h8 with h8 | h8
      · have := h.ol _ h8; omega
      · have := hA'l _ h8; omega)
    (fun k h8 => by
      rcases h8 with h8 | h8
      · have := h.il _ h8; omega
      · have := h8.2; omega)
    (fun t ht => by
      injection ht with ht
      subst ht
      refine ⟨⟨?_, fun k hk => .inr hk, by show 0 < (l ++ [y]).length; simp, by show (l ++ [y]).length ≤ 40; simp; omega, fun x hx => ?_, fun x hx => ?_, fun x hx => ?_⟩, fun n' t' hn ht' k h8 h9 => ?_⟩
      · show OwnO w' 50 20 A' (l ++ [y]).length c' (letsC (l ++ [y]))
        rw [List.length_append, List.length_singleton, letsC_append, letsC_one]
        exact ha.1.fr hf hA'm
      · rcases List.mem_append.1 hx with hx | hx
        · exact (((hs.each x hx).nw q).fr hF hIs).mono (fun k hk _ => .inl hk)
        · rw [List.mem_singleton.1 hx]
          refine (iy.mono (F' := fun k => I k ∨ (Since w k ∧ k < wy.heap.size)) (fun k hk hl => .inr ⟨hk, hl⟩)).fr hF (fun k hk e => ?_)
          rcases hk with hk | hk
          · exact hIs k hk e
          · have h1 := hk.1
            unfold Since at h1
            rcases e with e | e
            · have := hAw k e; omega
            · have := h.map.lt; omega
      · rcases List.mem_append.1 hx with hx | hx
        · exact hs.sz x hx
        · rw [List.mem_singleton.1 hx]; exact sy
      · rcases List.mem_append.1 hx with hx | hx
        · exact hs.ok x hx
        · rw [List.mem_singleton.1 hx]; exact oy
      · rcases hA' k h8 with h1 | h1
        · exact hs.far n' t' hn ht' k h1 h9
        · have := h.ol _ ((h.link n' t' ht').base k h9); omega)
  refine ⟨_, _, _, N6, rfl, rfl, ?_, rfl, ?_, fun j hj => ?_, fun j hj => ?_⟩
  · funext m
    by_cases e : m = n
    · subst e
      rw [NetM.p_some (s := ⟨A', c', l ++ [y]⟩) (by simp [setF]), if_pos rfl, ← hs.p]
      simp
    · rw [if_neg e]
      unfold NetM.p
      simp [setF, e]
  · exact (Nw.on q).tr (hF.mono fun k hk => .inl (by
      rcases hk with hk | hk
      · exact hs.base k hk
      · rw [hk]; exact h.om))
  · rcases hj with hj | hj
    · exact .inl hj
    · rcases hA' j hj with h1 | h1
      · exact .inl (hs.base j h1)
      · exact .inr (by omega)
  · rcases hj with hj | hj
    · exact .inl hj
    · exact .inr hj.1
abbrev SdT := LetM × Nat × Option Addr
def sdS1 (W : World) (x : LetM) (t : SdT) (w : World) : Prop := Nw W w ∧ t.1.x = x.x ∧ LetIn w (Since W) t.1
def sdS2 (W : World) (x : LetM) (t b : SdT) (w : World) : Prop := sdS1 W x t w ∧ Sl w (· = b.2.1) (some ⟨b.2.1, 0, none⟩) (letL t.1)
def sdS3 (W : World) (x : LetM) (A0 : Option Addr) (n0 c0 : Nat) (cs : List Value) (t b : SdT) (w : World) : Prop :=
  ∃ wy, sdS1 W x t wy ∧ AppO wy 50 20 A0 n0 c0 1 cs (letL t.1) b.2.2 b.2.1 w
def sdS4 (W : World) (x : LetM) (A0 : Option Addr) (n0 c0 : Nat) (cs : List Value) (m s : Nat) (f : Nm → Option Value) (n : Nm) (t b : SdT) (w : World) : Prop :=
  ∃ wx, sdS3 W x A0 n0 c0 cs t b wx ∧ WayMap w m (s + 1) (setW f n (some (.slice b.2.2 (n0 + 1) b.2.1))) ∧ Fr (· = m) wx w
theorem sd1_nw {W : World} {x : LetM} {t : SdT} {w w' : World} (h : sdS1 W x t w) (q : Nw w w') : sdS1 W x t w' := ⟨h.1.tr q, h.2.1, h.2.2.nw q⟩
theorem sd3_fr {W : World} {x : LetM} {A0 : Option Addr} {n0 c0 : Nat} {cs : List Value} {t b : SdT} {w : World} (h : sdS3 W x A0 n0 c0 cs t b w) (m : Nat) : Fr (fun k => inA A0 k ∨ k = m) W w := by
  obtain ⟨wy, h1, h2⟩ := h
  exact (Nw.on h1.1).tr (h2.fr.mono fun _ h => .inl (.inl h))
theorem sd4_fr {W : World} {x : LetM} {A0 : Option Addr} {n0 c0 : Nat} {cs : List Value} {m s : Nat} {f : Nm → Option Value} {n : Nm} {t b : SdT} {w : World} (h : sdS4 W x A0 n0 c0 cs m s f n t b w) : Fr (fun k => inA A0 k ∨ k = m) W w := by
  obtain ⟨wx, h1, _, h2⟩ := h
  exact (sd3_fr h1 m).tr (h2.mono fun _ h => .inl (.inr h))
end Go.Proofs.YtippdjaakcgeoaaGreat

namespace Go.Proofs.YtippdjaakcgeoaaGreat
open Go Go.RowKit
set_option linter.unusedVariables false
set_option linter.unusedSimpArgs false
theorem ndAt_zero (l : List Int) (h : 0 < l.length) : ndAt l 0 = decide (1 ≤ l[0] ∧ l[0] ≤ 5) := by
  unfold ndAt
  rw [List.getD_eq_getElem?_getD, List.getElem?_eq_getElem h]
  simp
theorem ndAt_succ (l : List Int) (j : Nat) (h : j + 1 < l.length) : ndAt l (j + 1) = (decide (1 ≤ l[j + 1] ∧ l[j + 1] ≤ 5) && decide (l[j] < l[j + 1])) := by
  unfold ndAt
  have e : j + 1 - 1 = j := by omega
  rw [e, List.getD_eq_getElem?_getD, List.getElem?_eq_getElem h, List.getD_eq_getElem?_getD, List.getElem?_eq_getElem (by omega)]
  simp
theorem nodes_all {l : List Int} (h : ∀ j, j < l.length → ndAt l j = true) : nodesOk l = true := by
  unfold nodesOk
  exact List.all_eq_true.2 fun j hj => h j (List.mem_range.1 hj)
theorem nodes_no {l : List Int} {k : Nat} (hk : k < l.length) (h : ndAt l k = false) : nodesOk l = false := by
  unfold nodesOk
  rw [List.all_eq_false]
  exact ⟨k, List.mem_range.2 hk, by rw [h]; simp⟩
def NdR (w : World) (l : List Int) (i : Value) (wr : World) : Prop := ∃ k : Nat, k ≤ l.length ∧ i = .int .i64 k ∧ (∀ j, j < k → ndAt l j = true) ∧ Nw w wr
set_option maxRecDepth 100000 in
set_option maxHeartbeats 4000000 in
theorem jnodes (w : World) (F : Nat → Prop) (A : Option Addr) (c : Nat) (l : List Int) (h : Sl w F A (intsC l)) (hsz : l.length ≤ 1000000000000) :
    Calls Tryz.prog 154 #[.slice A l.length c] w fun e w' => e = .returned (.bool (nodesOk l)) ∧ Nw w w' := by
  go_enter Tryz.func154, Tryz.ntmps154
  go_wp2_with fail
  go_loopw [7] (fun i wr => NdR w l i wr) (fun i _ => l.length - (intOf i).toNat)
  case atStart => exact ⟨0, Nat.zero_le _, rfl, fun j hj => by omega, Fr.refl _ _⟩
  case round =>
    obtain ⟨k, hk, rfl, hb, hq⟩ := hrel
    have HB := Lib.hid hb
    clear hb
    by_cases hlt : k < l.length
    · cases k with
      | zero =>
        obtain ⟨b, o, rfl, _, p0⟩ := (h.fr hq (fun _ _ h => h)).get hlt
        have hA := ndAt_zero l hlt
        have hi0 : (0 : Int) < (l.length : Int) := by omega
        obtain ⟨x, hx⟩ : ∃ x, l[0] = x := ⟨_, rfl⟩
        rw [hx] at hA p0
        simp only [Nat.add_zero] at p0
        clear hx
        by_cases h1 : x < 1
        · have hA : ndAt l 0 = false := by rw [hA]; exact decide_eq_false (by omega)
          have HA := Lib.hid hA
          clear hA
          have g1 : decide (x < 1) = true := decide_eq_true h1
          go_wp2_with fail
          go_ret
          exact ⟨ret_eq (congrArg Value.bool (nodes_no hlt (HA.out)).symm), hq⟩
        · have h2 : 1 ≤ x := by omega
          have g1 : decide (x < 1) = false := decide_eq_false h1
          by_cases h3 : 5 < x
          · have hA : ndAt l 0 = false := by rw [hA]; exact decide_eq_false (by omega)
            have HA := Lib.hid hA
            clear hA
            have g2 : decide (5 < x) = true := decide_eq_true h3
            go_wp2_with fail
            go_ret
            exact ⟨ret_eq (congrArg Value.bool (nodes_no hlt (HA.out)).symm), hq⟩
          · have h4 : x ≤ 5 := by omega
            have hA : ndAt l 0 = true := by rw [hA]; exact decide_eq_true ⟨h2, h4⟩
            have HA := Lib.hid hA
            clear hA
            have g2 : decide (5 < x) = false := decide_eq_false h3
            go_wp2_with fail
            go_roundw
            case rel =>
              refine ⟨1, by omega, by go_num, fun i hi => ?_, hq⟩
              by_cases e : i = 0
              · subst e; exact HA.out
              · exact HB.out i (by omega)
            case measure => simp [intOf]; omega
      | succ j =>
        obtain ⟨b, o, rfl, _, p0⟩ := (h.fr hq (fun _ _ h => h)).get hlt
        obtain ⟨b', o', hbo, _, r0⟩ := (h.fr hq (fun _ _ h => h)).get (show j < l.length by omega)
        injection hbo with hbo
        injection hbo with e1 e2 _
        subst e1
        subst e2
        have hA := ndAt_succ l j hlt
        have hi0 : (j : Int) + 1 < (l.length : Int) := by omega
        obtain ⟨x, hx⟩ : ∃ x, l[j + 1] = x := ⟨_, rfl⟩
        obtain ⟨y, hy⟩ : ∃ y, l[j] = y := ⟨_, rfl⟩
        rw [hx, hy] at hA
        rw [hx] at p0
        rw [hy] at r0
        have hj0 : (0 : Int) < (j : Int) + 1 := by omega
        have g3 : decide ((0 : Int) < (j : Int) + 1) = true := decide_eq_true hj0
        have hsub : IntKind.i64.wrap ((j : Int) + 1 - 1) = (j : Int) := by rw [IntWalk.i64_in _ (by omega)]; omega
        clear hx hy
        by_cases h1 : x < 1
        · have hA : ndAt l (j + 1) = false := by rw [hA, decide_eq_false (show ¬ (1 ≤ x ∧ x ≤ 5) by omega)]; rfl
          have HA := Lib.hid hA
          clear hA
          have g1 : decide (x < 1) = true := decide_eq_true h1
          go_wp2_with fail
          go_ret
          exact ⟨ret_eq (congrArg Value.bool (nodes_no hlt (HA.out)).symm), hq⟩
        · have h2 : 1 ≤ x := by omega
          have g1 : decide (x < 1) = false := decide_eq_false h1
          by_cases h3 : 5 < x
          · have hA : ndAt l (j + 1) = false := by rw [hA, decide_eq_false (show ¬ (1 ≤ x ∧ x ≤ 5) by omega)]; rfl
            have HA := Lib.hid hA
            clear hA
            have g2 : decide (5 < x) = true := decide_eq_true h3
            go_wp2_with fail
            go_ret
            exact ⟨ret_eq (congrArg Value.bool (nodes_no hlt (HA.out)).symm), hq⟩
          · have h4 : x ≤ 5 := by omega
            have g2 : decide (5 < x) = false := decide_eq_false h3
            by_cases h5 : x ≤ y
            · have hA : ndAt l (j + 1) = false := by rw [hA, decide_eq_false (show ¬ (y < x) by omega)]; exact Bool.and_false _
              have HA := Lib.hid hA
              clear hA
              have g4 : decide (x ≤ y) = true := decide_eq_true h5
              go_wp2_with fail
              go_ret
              exact ⟨ret_eq (congrArg Value.bool (nodes_no hlt (HA.out)).symm), hq⟩
            · have h6 : y < x := by omega
              have hA : ndAt l (j + 1) = true := by rw [hA, decide_eq_true h6, decide_eq_true (show 1 ≤ x ∧ x ≤ 5 from ⟨h2, h4⟩)]; rfl
              have HA := Lib.hid hA
              clear hA
              have g4 : decide (x ≤ y) = false := decide_eq_false h5
              go_wp2_with fail
              go_roundw
              case rel =>
                refine ⟨j + 1 + 1, by omega, by go_num, fun i hi => ?_, hq⟩
                by_cases e : i = j + 1
                · subst e; exact HA.out
                · exact HB.out i (by omega)
              case measure => simp [intOf]; omega
    · obtain rfl : l.length = k := by omega
      go_wp2_with fail
      go_ret
      exact ⟨ret_eq (congrArg Value.bool (nodes_all (fun j hj => HB.out j hj)).symm), hq⟩
set_option maxRecDepth 100000 in
set_option maxHeartbeats 4000000 in
theorem rnodes (w : World) (F : Nat → Prop) (A : Option Addr) (c : Nat) (l : List Int) (h : Sl w F A (intsC l)) (hsz : l.length ≤ 1000000000000) :
    Calls Tryz.prog 222 #[.slice A l.length c] w fun e w' => e = .returned (.bool (nodesOk l)) ∧ Nw w w' := by
  go_enter Tryz.func222, Tryz.ntmps222
  go_wp2_with fail
  go_loopw [3] (fun i wr => NdR w l i wr) (fun i _ => l.length - (intOf i).toNat)
  case atStart => exact ⟨0, Nat.zero_le _, rfl, fun j hj => by omega, Fr.refl _ _⟩
  case round =>
    obtain ⟨k, hk, rfl, hb, hq⟩ := hrel
    have HB := Lib.hid hb
    clear hb
    by_cases hlt : k < l.length
    · cases k with
      | zero =>
        obtain ⟨b, o, rfl, _, p0⟩ := (h.fr hq (fun _ _ h => h)).get hlt
        have hA := ndAt_zero l hlt
        have hi0 : (0 : Int) < (l.length : Int) := by omega
        obtain ⟨x, hx⟩ : ∃ x, l[0] = x := ⟨_, rfl⟩
        rw [hx] at hA p0
        simp only [Nat.add_zero] at p0
        have P0 := fun (m : Later wr) => m.cell p0
        clear p0
        clear hx
        by_cases h1 : x < 1
        · have hA : ndAt l 0 = false := by rw [hA]; exact decide_eq_false (by omega)
          have HA := Lib.hid hA
          clear hA
          have g1 : decide (x < 1) = true := decide_eq_true h1
          go_wp2_with fail
          refine wp_region_later (by kernel_rfl) (by kernel_rfl) ?_
          repeat (go_big_quiet_step (fail))
          refine wpQuiet_later fun w5 q5 => ?_
          go_wp2_with fail
          go_ret
          exact ⟨ret_eq (congrArg Value.bool (nodes_no hlt (HA.out)).symm), hq.tr q5⟩
        · have h2 : 1 ≤ x := by omega
          have g1 : decide (x < 1) = false := decide_eq_false h1
          by_cases h3 : 5 < x
          · have hA : ndAt l 0 = false := by rw [hA]; exact decide_eq_false (by omega)
            have HA := Lib.hid hA
            clear hA
            have g2 : decide (5 < x) = true := decide_eq_true h3
            go_wp2_with fail
            refine wp_region_later (by kernel_rfl) (by kernel_rfl) ?_
            repeat (go_big_quiet_step (fail))
            refine wpQuiet_later fun w5 q5 => ?_
            go_wp2_with fail
            go_ret
            exact ⟨ret_eq (congrArg Value.bool (nodes_no hlt (HA.out)).symm), hq.tr q5⟩
          · have h4 : x ≤ 5 := by omega
            have hA : ndAt l 0 = true := by rw [hA]; exact decide_eq_true ⟨h2, h4⟩
            have HA := Lib.hid hA
            clear hA
            have g2 : decide (5 < x) = false := decide_eq_false h3
            go_wp2_with fail
            refine wp_region_later (by kernel_rfl) (by kernel_rfl) ?_
            repeat (go_big_quiet_step (fail))
            refine wpQuiet_later fun w5 q5 => ?_
            go_wp2_with fail
            go_roundw
            case rel =>
              refine ⟨1, by omega, by go_num, fun i hi => ?_, hq.tr q5⟩
              by_cases e : i = 0
              · subst e; exact HA.out
              · exact HB.out i (by omega)
            case measure => simp [intOf]; omega
      | succ j =>
        obtain ⟨b, o, rfl, _, p0⟩ := (h.fr hq (fun _ _ h => h)).get hlt
        obtain ⟨b', o', hbo, _, r0⟩ := (h.fr hq (fun _ _ h => h)).get (show j < l.length by omega)
        injection hbo with hbo
        injection hbo with e1 e2 _
        subst e1
        subst e2
        have hA := ndAt_succ l j hlt
        have hi0 : (j : Int) + 1 < (l.length : Int) := by omega
        obtain ⟨x, hx⟩ : ∃ x, l[j + 1] = x := ⟨_, rfl⟩
        obtain ⟨y, hy⟩ : ∃ y, l[j] = y := ⟨_, rfl⟩
        rw [hx, hy] at hA
        rw [hx] at p0
        rw [hy] at r0
        have hj0 : (0 : Int) < (j : Int) + 1 := by omega
        have g3 : decide ((0 : Int) < (j : Int) + 1) = true := decide_eq_true hj0
        have hsub : IntKind.i64.wrap ((j : Int) + 1 - 1) = (j : Int) := by rw [IntWalk.i64_in _ (by omega)]; omega
        have P0 := fun (m : Later wr) => m.cell p0
        have R0 := fun (m : Later wr) => m.cell r0
        clear p0 r0
        clear hx hy
        by_cases h1 : x < 1
        · have hA : ndAt l (j + 1) = false := by rw [hA, decide_eq_false (show ¬ (1 ≤ x ∧ x ≤ 5) by omega)]; rfl
          have HA := Lib.hid hA
          clear hA
          have g1 : decide (x < 1) = true := decide_eq_true h1
          go_wp2_with fail
          refine wp_region_later (by kernel_rfl) (by kernel_rfl) ?_
          repeat (go_big_quiet_step (fail))
          refine wpQuiet_later fun w5 q5 => ?_
          go_wp2_with fail
          go_ret
          exact ⟨ret_eq (congrArg Value.bool (nodes_no hlt (HA.out)).symm), hq.tr q5⟩
        · have h2 : 1 ≤ x := by omega
          have g1 : decide (x < 1) = false := decide_eq_false h1
          by_cases h3 : 5 < x
          · have hA : ndAt l (j + 1) = false := by rw [hA, decide_eq_false (show ¬ (1 ≤ x ∧ x ≤ 5) by omega)]; rfl
            have HA := Lib.hid hA
            clear hA
            have g2 : decide (5 < x) = true := decide_eq_true h3
            go_wp2_with fail
            refine wp_region_later (by kernel_rfl) (by kernel_rfl) ?_
            repeat (go_big_quiet_step (fail))
            refine wpQuiet_later fun w5 q5 => ?_
            go_wp2_with fail
            go_ret
            exact ⟨ret_eq (congrArg Value.bool (nodes_no hlt (HA.out)).symm), hq.tr q5⟩
          · have h4 : x ≤ 5 := by omega
            have g2 : decide (5 < x) = false := decide_eq_false h3
            by_cases h5 : x ≤ y
            · have hA : ndAt l (j + 1) = false := by rw [hA, decide_eq_false (show ¬ (y < x) by omega)]; exact Bool.and_false _
              have HA := Lib.hid hA
              clear hA
              have g4 : decide (x ≤ y) = true := decide_eq_true h5
              go_wp2_with fail
              refine wp_region_later (by kernel_rfl) (by kernel_rfl) ?_
              repeat (go_big_quiet_step (fail))
              refine wpQuiet_later fun w5 q5 => ?_
              go_wp2_with fail
              go_ret
              exact ⟨ret_eq (congrArg Value.bool (nodes_no hlt (HA.out)).symm), hq.tr q5⟩
            · have h6 : y < x := by omega
              have hA : ndAt l (j + 1) = true := by rw [hA, decide_eq_true h6, decide_eq_true (show 1 ≤ x ∧ x ≤ 5 from ⟨h2, h4⟩)]; rfl
              have HA := Lib.hid hA
              clear hA
              have g4 : decide (x ≤ y) = false := decide_eq_false h5
              go_wp2_with fail
              refine wp_region_later (by kernel_rfl) (by kernel_rfl) ?_
              repeat (go_big_quiet_step (fail))
              refine wpQuiet_later fun w5 q5 => ?_
              go_wp2_with fail
              go_roundw
              case rel =>
                refine ⟨j + 1 + 1, by omega, by go_num, fun i hi => ?_, hq.tr q5⟩
                by_cases e : i = j + 1
                · subst e; exact HA.out
                · exact HB.out i (by omega)
              case measure => simp [intOf]; omega
    · obtain rfl : l.length = k := by omega
      go_wp2_with fail
      go_ret
      exact ⟨ret_eq (congrArg Value.bool (nodes_all (fun j hj => HB.out j hj)).symm), hq⟩
set_option maxRecDepth 100000 in
set_option maxHeartbeats 4000000 in
theorem jcfg (w : World) (F : Nat → Prop) (x : CfgM) (hx : CfgIn w F x) (hz : CfgSz x) :
    Calls Tryz.prog 78 #[.agg (cfgA x)] w fun e w' => e = .returned (.bool (cfgOk x.x)) ∧ Nw w w' := by
  have hok : cfgOk x.x = (nodesOk x.v.l && (nodesOk x.o.l && (nodesOk x.l.l && nodesOk x.w.l))) := rfl
  rw [hok]
  clear hok
  obtain ⟨W0, hW0⟩ : ∃ W, W = w.alloc (.cells #[.slice x.v.a x.v.l.length x.v.c, .slice x.o.a x.o.l.length x.o.c, .slice x.l.a x.l.l.length x.l.c, .slice x.w.a x.w.l.length x.w.c] 45) := ⟨_, rfl⟩
  have p0 : Nw w W0 := by rw [hW0]; exact (Fr.refl (fun _ => False) _).alloc _
  have b0 : Blk W0 w.heap.size 45 #[.slice x.v.a x.v.l.length x.v.c, .slice x.o.a x.o.l.length x.o.c, .slice x.l.a x.l.l.length x.l.c, .slice x.w.a x.w.l.length x.w.c] := by rw [hW0]; exact Blk.new _ _ _
  have Q0 : Nw w W0 := p0
  have z1 : ∀ m : Later W0, Calls Tryz.prog 154 #[.slice x.v.a x.v.l.length x.v.c] m.at_ fun e w' => e = .returned (.bool (nodesOk x.v.l)) ∧ Nw m.at_ w' := fun m => by
    have f := Q0.tr m.nw
    exact jnodes _ F _ _ _ (hx.v.nw f).sl (by have := hz.v; omega)
  obtain ⟨d1, e1⟩ : ∃ d, (nodesOk x.v.l) = d := ⟨_, rfl⟩
  simp only [e1] at z1 ⊢
  have z2 : ∀ m : Later W0, Calls Tryz.prog 154 #[.slice x.o.a x.o.l.length x.o.c] m.at_ fun e w' => e = .returned (.bool (nodesOk x.o.l)) ∧ Nw m.at_ w' := fun m => by
    have f := Q0.tr m.nw
    exact jnodes _ F _ _ _ (hx.o.nw f).sl (by have := hz.o; omega)
  obtain ⟨d2, e2⟩ : ∃ d, (nodesOk x.o.l) = d := ⟨_, rfl⟩
  simp only [e2] at z2 ⊢
  have z3 : ∀ m : Later W0, Calls Tryz.prog 154 #[.slice x.l.a x.l.l.length x.l.c] m.at_ fun e w' => e = .returned (.bool (nodesOk x.l.l)) ∧ Nw m.at_ w' := fun m => by
    have f := Q0.tr m.nw
    exact jnodes _ F _ _ _ (hx.l.nw f).sl (by have := hz.l; omega)
  obtain ⟨d3, e3⟩ : ∃ d, (nodesOk x.l.l) = d := ⟨_, rfl⟩
  simp only [e3] at z3 ⊢
  have z4 : ∀ m : Later W0, Calls Tryz.prog 154 #[.slice x.w.a x.w.l.length x.w.c] m.at_ fun e w' => e = .returned (.bool (nodesOk x.w.l)) ∧ Nw m.at_ w' := fun m => by
    have f := Q0.tr m.nw
    exact jnodes _ F _ _ _ (hx.w.nw f).sl (by have := hz.w; omega)
  obtain ⟨d4, e4⟩ : ∃ d, (nodesOk x.w.l) = d := ⟨_, rfl⟩
  simp only [e4] at z4 ⊢
  have hS : ∀ w1, Nw W0 w1 → w1.cell? ⟨w.heap.size, 0, none⟩ = some (.slice x.v.a x.v.l.length x.v.c) ∧ w1.cell? ⟨w.heap.size, 1, none⟩ = some (.slice x.o.a x.o.l.length x.o.c) ∧ w1.cell? ⟨w.heap.size, 2, none⟩ = some (.slice x.l.a x.l.l.length x.l.c) ∧ w1.cell? ⟨w.heap.size, 3, none⟩ = some (.slice x.w.a x.w.l.length x.w.c) := fun w1 f => by
    have a0 := b0.fr f (fun h => h)
    exact ⟨by simpa using a0.cell 0, by simpa using a0.cell 1, by simpa using a0.cell 2, by simpa using a0.cell 3⟩
  have HW0 := Lib.hid hW0
  clear hW0 b0 e1 e2 e3 e4
  cases d1 with
  | false =>
    go_enter Tryz.func78, Tryz.ntmps78
    go_upto_region 1 with (fail)
    rw [← HW0.out]
    obtain ⟨k0_0_0, _, _, _⟩ := hS W0 (Fr.refl _ _)
    go_wp2_with fail
    refine (z1 ⟨_, (Fr.refl (fun _ => False) W0)⟩).mono ?_
    rintro e v1 ⟨rfl, r1⟩
    have Q1 : Nw W0 v1 := (Fr.refl (fun _ => False) W0).tr r1
    go_wp2_with fail
    go_ret
    exact ⟨rfl, Q0.tr Q1⟩
  | true =>
  cases d2 with
  | false =>
    go_enter Tryz.func78, Tryz.ntmps78
    go_upto_region 1 with (fail)
    rw [← HW0.out]
    obtain ⟨k0_0_0, _, _, _⟩ := hS W0 (Fr.refl _ _)
    go_wp2_with fail
    refine (z1 ⟨_, (Fr.refl (fun _ => False) W0)⟩).mono ?_
    rintro e v1 ⟨rfl, r1⟩
    have Q1 : Nw W0 v1 := (Fr.refl (fun _ => False) W0).tr r1
    obtain ⟨_, k1_0_1, _, _⟩ := hS v1 Q1
    go_wp2_with fail
    refine (z2 ⟨_, Q1⟩).mono ?_
    rintro e v2 ⟨rfl, r2⟩
    have Q2 : Nw W0 v2 := Q1.tr r2
    go_wp2_with fail
    go_ret
    exact ⟨rfl, Q0.tr Q2⟩
  | true =>
  cases d3 with
  | false =>
    go_enter Tryz.func78, Tryz.ntmps78
    go_upto_region 1 with (fail)
    rw [← HW0.out]
    obtain ⟨k0_0_0, _, _, _⟩ := hS W0 (Fr.refl _ _)
    go_wp2_with fail
    refine (z1 ⟨_, (Fr.refl (fun _ => False) W0)⟩).mono ?_
    rintro e v1 ⟨rfl, r1⟩
    have Q1 : Nw W0 v1 := (Fr.refl (fun _ => False) W0).tr r1
    obtain ⟨_, k1_0_1, _, _⟩ := hS v1 Q1
    go_wp2_with fail
    refine (z2 ⟨_, Q1⟩).mono ?_
    rintro e v2 ⟨rfl, r2⟩
    have Q2 : Nw W0 v2 := Q1.tr r2
    obtain ⟨_, _, k2_0_2, _⟩ := hS v2 Q2
    go_wp2_with fail
    refine (z3 ⟨_, Q2⟩).mono ?_
    rintro e v3 ⟨rfl, r3⟩
    have Q3 : Nw W0 v3 := Q2.tr r3
    go_wp2_with fail
    go_ret
    exact ⟨rfl, Q0.tr Q3⟩
  | true =>
  cases d4 with
  | false =>
    go_enter Tryz.func78, Tryz.ntmps78
    go_upto_region 1 with (fail)
    rw [← HW0.out]
    obtain ⟨k0_0_0, _, _, _⟩ := hS W0 (Fr.refl _ _)
    go_wp2_with fail
    refine (z1 ⟨_, (Fr.refl (fun _ => False) W0)⟩).mono ?_
    rintro e v1 ⟨rfl, r1⟩
    have Q1 : Nw W0 v1 := (Fr.refl (fun _ => False) W0).tr r1
    obtain ⟨_, k1_0_1, _, _⟩ := hS v1 Q1
    go_wp2_with fail
    refine (z2 ⟨_, Q1⟩).mono ?_
    rintro e v2 ⟨rfl, r2⟩
    have Q2 : Nw W0 v2 := Q1.tr r2
    obtain ⟨_, _, k2_0_2, _⟩ := hS v2 Q2
    go_wp2_with fail
    refine (z3 ⟨_, Q2⟩).mono ?_
    rintro e v3 ⟨rfl, r3⟩
    have Q3 : Nw W0 v3 := Q2.tr r3
    obtain ⟨_, _, _, k3_0_3⟩ := hS v3 Q3
    go_wp2_with fail
    refine (z4 ⟨_, Q3⟩).mono ?_
    rintro e v4 ⟨rfl, r4⟩
    have Q4 : Nw W0 v4 := Q3.tr r4
    go_wp2_with fail
    go_ret
    exact ⟨rfl, Q0.tr Q4⟩
  | true =>
  go_enter Tryz.func78, Tryz.ntmps78
  go_upto_region 1 with (fail)
  rw [← HW0.out]
  obtain ⟨k0_0_0, _, _, _⟩ := hS W0 (Fr.refl _ _)
  go_wp2_with fail
  refine (z1 ⟨_, (Fr.refl (fun _ => False) W0)⟩).mono ?_
  rintro e v1 ⟨rfl, r1⟩
  have Q1 : Nw W0 v1 := (Fr.refl (fun _ => False) W0).tr r1
  obtain ⟨_, k1_0_1, _, _⟩ := hS v1 Q1
  go_wp2_with fail
  refine (z2 ⟨_, Q1⟩).mono ?_
  rintro e v2 ⟨rfl, r2⟩
  have Q2 : Nw W0 v2 := Q1.tr r2
  obtain ⟨_, _, k2_0_2, _⟩ := hS v2 Q2
  go_wp2_with fail
  refine (z3 ⟨_, Q2⟩).mono ?_
  rintro e v3 ⟨rfl, r3⟩
  have Q3 : Nw W0 v3 := Q2.tr r3
  obtain ⟨_, _, _, k3_0_3⟩ := hS v3 Q3
  go_wp2_with fail
  refine (z4 ⟨_, Q3⟩).mono ?_
  rintro e v4 ⟨rfl, r4⟩
  have Q4 : Nw W0 v4 := Q3.tr r4
  go_wp2_with fail
  go_ret
  exact ⟨rfl, Q0.tr Q4⟩
set_option maxRecDepth 100000 in
set_option maxHeartbeats 4000000 in
theorem rcfg (w : World) (F : Nat → Prop) (x : CfgM) (hx : CfgIn w F x) (hz : CfgSz x) :
    Calls Tryz.prog 198 #[.agg (cfgA x)] w fun e w' => e = .returned (.bool (cfgOk x.x)) ∧ Nw w w' := by
  have hok : cfgOk x.x = (nodesOk x.v.l && (nodesOk x.o.l && (nodesOk x.l.l && nodesOk x.w.l))) := rfl
  rw [hok]
  clear hok
  obtain ⟨W0, hW0⟩ : ∃ W, W = w.alloc (.cells #[.slice x.v.a x.v.l.length x.v.c, .slice x.o.a x.o.l.length x.o.c, .slice x.l.a x.l.l.length x.l.c, .slice x.w.a x.w.l.length x.w.c] 45) := ⟨_, rfl⟩
  have p0 : Nw w W0 := by rw [hW0]; exact (Fr.refl (fun _ => False) _).alloc _
  have b0 : Blk W0 w.heap.size 45 #[.slice x.v.a x.v.l.length x.v.c, .slice x.o.a x.o.l.length x.o.c, .slice x.l.a x.l.l.length x.l.c, .slice x.w.a x.w.l.length x.w.c] := by rw [hW0]; exact Blk.new _ _ _
  have Q0 : Nw w W0 := p0
  have z1 : ∀ m : Later W0, Calls Tryz.prog 222 #[.slice x.v.a x.v.l.length x.v.c] m.at_ fun e w' => e = .returned (.bool (nodesOk x.v.l)) ∧ Nw m.at_ w' := fun m => by
    have f := Q0.tr m.nw
    exact rnodes _ F _ _ _ (hx.v.nw f).sl (by have := hz.v; omega)
  obtain ⟨d1, e1⟩ : ∃ d, (nodesOk x.v.l) = d := ⟨_, rfl⟩
  simp only [e1] at z1 ⊢
  have z2 : ∀ m : Later W0, Calls Tryz.prog 222 #[.slice x.o.a x.o.l.length x.o.c] m.at_ fun e w' => e = .returned (.bool (nodesOk x.o.l)) ∧ Nw m.at_ w' := fun m => by
    have f := Q0.tr m.nw
    exact rnodes _ F _ _ _ (hx.o.nw f).sl (by have := hz.o; omega)
  obtain ⟨d2, e2⟩ : ∃ d, (nodesOk x.o.l) = d := ⟨_, rfl⟩
  simp only [e2] at z2 ⊢
  have z3 : ∀ m : Later W0, Calls Tryz.prog 222 #[.slice x.l.a x.l.l.length x.l.c] m.at_ fun e w' => e = .returned (.bool (nodesOk x.l.l)) ∧ Nw m.at_ w' := fun m => by
    have f := Q0.tr m.nw
    exact rnodes _ F _ _ _ (hx.l.nw f).sl (by have := hz.l; omega)
  obtain ⟨d3, e3⟩ : ∃ d, (nodesOk x.l.l) = d := ⟨_, rfl⟩
  simp only [e3] at z3 ⊢
  have z4 : ∀ m : Later W0, Calls Tryz.prog 222 #[.slice x.w.a x.w.l.length x.w.c] m.at_ fun e w' => e = .returned (.bool (nodesOk x.w.l)) ∧ Nw m.at_ w' := fun m => by
    have f := Q0.tr m.nw
    exact rnodes _ F _ _ _ (hx.w.nw f).sl (by have := hz.w; omega)
  obtain ⟨d4, e4⟩ : ∃ d, (nodesOk x.w.l) = d := ⟨_, rfl⟩
  simp only [e4] at z4 ⊢
  have hS : ∀ w1, Nw W0 w1 → w1.cell? ⟨w.heap.size, 0, none⟩ = some (.slice x.v.a x.v.l.length x.v.c) ∧ w1.cell? ⟨w.heap.size, 1, none⟩ = some (.slice x.o.a x.o.l.length x.o.c) ∧ w1.cell? ⟨w.heap.size, 2, none⟩ = some (.slice x.l.a x.l.l.length x.l.c) ∧ w1.cell? ⟨w.heap.size, 3, none⟩ = some (.slice x.w.a x.w.l.length x.w.c) := fun w1 f => by
    have a0 := b0.fr f (fun h => h)
    exact ⟨by simpa using a0.cell 0, by simpa using a0.cell 1, by simpa using a0.cell 2, by simpa using a0.cell 3⟩
  have HW0 := Lib.hid hW0
  clear hW0 b0 e1 e2 e3 e4
  cases d1 with
  | false =>
    go_enter Tryz.func198, Tryz.ntmps198
    go_upto_region 1 with (fail)
    rw [← HW0.out]
    obtain ⟨k0_0_0, _, _, _⟩ := hS W0 (Fr.refl _ _)
    go_wp2_with fail
    refine (z1 ⟨_, (Fr.refl (fun _ => False) W0)⟩).mono ?_
    rintro e v1 ⟨rfl, r1⟩
    have Q1 : Nw W0 v1 := (Fr.refl (fun _ => False) W0).tr r1
    go_wp2_with fail
    go_ret
    exact ⟨rfl, Q0.tr Q1⟩
  | true =>
  cases d2 with
  | false =>
    go_enter Tryz.func198, Tryz.ntmps198
    go_upto_region 1 with (fail)
    rw [← HW0.out]
    obtain ⟨k0_0_0, _, _, _⟩ := hS W0 (Fr.refl _ _)
    go_wp2_with fail
    refine (z1 ⟨_, (Fr.refl (fun _ => False) W0)⟩).mono ?_
    rintro e v1 ⟨rfl, r1⟩
    have Q1 : Nw W0 v1 := (Fr.refl (fun _ => False) W0).tr r1
    obtain ⟨_, k1_0_1, _, _⟩ := hS v1 Q1
    go_wp2_with fail
    refine (z2 ⟨_, Q1⟩).mono ?_
    rintro e v2 ⟨rfl, r2⟩
    have Q2 : Nw W0 v2 := Q1.tr r2
    go_wp2_with fail
    go_ret
    exact ⟨rfl, Q0.tr Q2⟩
  | true =>
  cases d3 with
  | false =>
    go_enter Tryz.func198, Tryz.ntmps198
    go_upto_region 1 with (fail)
    rw [← HW0.out]
    obtain ⟨k0_0_0, _, _, _⟩ := hS W0 (Fr.refl _ _)
    go_wp2_with fail
    refine (z1 ⟨_, (Fr.refl (fun _ => False) W0)⟩).mono ?_
    rintro e v1 ⟨rfl, r1⟩
    have Q1 : Nw W0 v1 := (Fr.refl (fun _ => False) W0).tr r1
    obtain ⟨_, k1_0_1, _, _⟩ := hS v1 Q1
    go_wp2_with fail
    refine (z2 ⟨_, Q1⟩).mono ?_
    rintro e v2 ⟨rfl, r2⟩
    have Q2 : Nw W0 v2 := Q1.tr r2
    obtain ⟨_, _, k2_0_2, _⟩ := hS v2 Q2
    go_wp2_with fail
    refine (z3 ⟨_, Q2⟩).mono ?_
    rintro e v3 ⟨rfl, r3⟩
    have Q3 : Nw W0 v3 := Q2.tr r3
    go_wp2_with fail
    go_ret
    exact ⟨rfl, Q0.tr Q3⟩
  | true =>
  cases d4 with
  | false =>
    go_enter Tryz.func198, Tryz.ntmps198
    go_upto_region 1 with (fail)
    rw [← HW0.out]
    obtain ⟨k0_0_0, _, _, _⟩ := hS W0 (Fr.refl _ _)
    go_wp2_with fail
    refine (z1 ⟨_, (Fr.refl (fun _ => False) W0)⟩).mono ?_
    rintro e v1 ⟨rfl, r1⟩
    have Q1 : Nw W0 v1 := (Fr.refl (fun _ => False) W0).tr r1
    obtain ⟨_, k1_0_1, _, _⟩ := hS v1 Q1
    go_wp2_with fail
    refine (z2 ⟨_, Q1⟩).mono ?_
    rintro e v2 ⟨rfl, r2⟩
    have Q2 : Nw W0 v2 := Q1.tr r2
    obtain ⟨_, _, k2_0_2, _⟩ := hS v2 Q2
    go_wp2_with fail
    refine (z3 ⟨_, Q2⟩).mono ?_
    rintro e v3 ⟨rfl, r3⟩
    have Q3 : Nw W0 v3 := Q2.tr r3
    obtain ⟨_, _, _, k3_0_3⟩ := hS v3 Q3
    go_wp2_with fail
    refine (z4 ⟨_, Q3⟩).mono ?_
    rintro e v4 ⟨rfl, r4⟩
    have Q4 : Nw W0 v4 := Q3.tr r4
    go_wp2_with fail
    go_ret
    exact ⟨rfl, Q0.tr Q4⟩
  | true =>
  go_enter Tryz.func198, Tryz.ntmps198
  go_upto_region 1 with (fail)
  rw [← HW0.out]
  obtain ⟨k0_0_0, _, _, _⟩ := hS W0 (Fr.refl _ _)
  go_wp2_with fail
  refine (z1 ⟨_, (Fr.refl (fun _ => False) W0)⟩).mono ?_
  rintro e v1 ⟨rfl, r1⟩
  have Q1 : Nw W0 v1 := (Fr.refl (fun _ => False) W0).tr r1
  obtain ⟨_, k1_0_1, _, _⟩ := hS v1 Q1
  go_wp2_with fail
  refine (z2 ⟨_, Q1⟩).mono ?_
  rintro e v2 ⟨rfl, r2⟩
  have Q2 : Nw W0 v2 := Q1.tr r2
  obtain ⟨_, _, k2_0_2, _⟩ := hS v2 Q2
  go_wp2_with fail
  refine (z3 ⟨_, Q2⟩).mono ?_
  rintro e v3 ⟨rfl, r3⟩
  have Q3 : Nw W0 v3 := Q2.tr r3
  obtain ⟨_, _, _, k3_0_3⟩ := hS v3 Q3
  go_wp2_with fail
  refine (z4 ⟨_, Q3⟩).mono ?_
  rintro e v4 ⟨rfl, r4⟩
  have Q4 : Nw W0 v4 := Q3.tr r4
  go_wp2_with fail
  go_ret
  exact ⟨rfl, Q0.tr Q4⟩
set_option maxRecDepth 100000 in
theorem jempty (w : World) (F : Nat → Prop) (x : CfgM) (hz : CfgSz x) : Calls Tryz.prog 157 #[.agg (cfgA x)] w fun e w' => e = .returned (.bool (cfgNone x.x)) ∧ Nw w w' := by
  obtain ⟨W0, hW0⟩ : ∃ W, W = w.alloc (.cells (cfgA x) 45) := ⟨_, rfl⟩
  have p0 : Nw w W0 := by rw [hW0]; exact (Fr.refl (fun _ => False) _).alloc _
  have b0 : Blk W0 w.heap.size 45 (cfgA x) := by rw [hW0]; exact Blk.new _ _ _
  have k0 : W0.cell? ⟨w.heap.size, 0, none⟩ = some x.v.v := by simpa using b0.cell 0
  have k1 : W0.cell? ⟨w.heap.size, 1, none⟩ = some x.o.v := by simpa using b0.cell 1
  have k2 : W0.cell? ⟨w.heap.size, 2, none⟩ = some x.l.v := by simpa using b0.cell 2
  have k3 : W0.cell? ⟨w.heap.size, 3, none⟩ = some x.w.v := by simpa using b0.cell 3
  have HW0 := Lib.hid hW0
  obtain ⟨hv, ho, hl, hw⟩ := hz
  have hn : cfgNone x.x = decide (x.v.l.length + x.o.l.length + x.l.l.length + x.w.l.length = 0) := rfl
  rw [hn]
  clear hW0 b0 hn
  have he : ((((x.v.l.length : Nat) : Int) + ((x.o.l.length : Nat) : Int) + ((x.l.l.length : Nat) : Int) + ((x.w.l.length : Nat) : Int)) == 0) = decide (x.v.l.length + x.o.l.length + x.l.l.length + x.w.l.length = 0) := by
    rw [Bool.eq_iff_iff, beq_iff_eq, decide_eq_true_eq]; omega
  have HE := Lib.hid he
  clear he
  go_enter Tryz.func157, Tryz.ntmps157
  go_upto_region 1 with (fail)
  rw [← HW0.out]
  go_wp2_with fail
  go_ret
  exact ⟨ret_eq (congrArg Value.bool HE.out), p0⟩
set_option maxRecDepth 100000 in
theorem rnone (w : World) (F : Nat → Prop) (x : CfgM) (hz : CfgSz x) : Calls Tryz.prog 199 #[.agg (cfgA x)] w fun e w' => e = .returned (.bool (cfgNone x.x)) ∧ Nw w w' := by
  obtain ⟨W0, hW0⟩ : ∃ W, W = w.alloc (.cells (cfgA x) 45) := ⟨_, rfl⟩
  have p0 : Nw w W0 := by rw [hW0]; exact (Fr.refl (fun _ => False) _).alloc _
  have b0 : Blk W0 w.heap.size 45 (cfgA x) := by rw [hW0]; exact Blk.new _ _ _
  have k0 : W0.cell? ⟨w.heap.size, 0, none⟩ = some x.v.v := by simpa using b0.cell 0
  have k1 : W0.cell? ⟨w.heap.size, 1, none⟩ = some x.o.v := by simpa using b0.cell 1
  have k2 : W0.cell? ⟨w.heap.size, 2, none⟩ = some x.l.v := by simpa using b0.cell 2
  have k3 : W0.cell? ⟨w.heap.size, 3, none⟩ = some x.w.v := by simpa using b0.cell 3
  have HW0 := Lib.hid hW0
  obtain ⟨hv, ho, hl, hw⟩ := hz
  have hn : cfgNone x.x = decide (x.v.l.length + x.o.l.length + x.l.l.length + x.w.l.length = 0) := rfl
  rw [hn]
  clear hW0 b0 hn
  have he : ((((x.v.l.length : Nat) : Int) + ((x.o.l.length : Nat) : Int) + ((x.l.l.length : Nat) : Int) + ((x.w.l.length : Nat) : Int)) == 0) = decide (x.v.l.length + x.o.l.length + x.l.l.length + x.w.l.length = 0) := by
    rw [Bool.eq_iff_iff, beq_iff_eq, decide_eq_true_eq]; omega
  have HE := Lib.hid he
  clear he
  go_enter Tryz.func199, Tryz.ntmps199
  go_upto_region 1 with (fail)
  rw [← HW0.out]
  go_wp2_with fail
  go_ret
  exact ⟨ret_eq (congrArg Value.bool HE.out), p0⟩
end Go.Proofs.YtippdjaakcgeoaaGreat
