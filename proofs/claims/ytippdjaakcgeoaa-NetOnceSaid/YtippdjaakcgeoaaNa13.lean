/- Lemmas of the walks: NcC, NdB, Pick. (Laid together by shake.py.) -/
import Derived.Test.YtippdjaakcgeoaaProg
import Derived.WalkKit
import Derived.Test.YtippdjaakcgeoaaNa04
import Derived.Test.YtippdjaakcgeoaaNa12
set_option linter.unusedVariables false
set_option linter.unusedSimpArgs false
namespace Go.Proofs.Ytippdjaakcgeoaa
open Go Go.RowKit
set_option linter.unusedVariables false
set_option linter.unusedSimpArgs false
theorem lets_slN {w w' : World} {g : Nat} (xs : List LetM) (hg : g = w.heap.size) (hw : w' = w.alloc (.cells (xs.map letL).flatten.toArray 40)) : Nw w w' ∧ Sl w' (· = g) (some ⟨g, 0, none⟩) (letsC xs) := by
  subst hg
  subst hw
  refine ⟨(Fr.refl (fun _ => False) w).alloc _, ?_⟩
  have h := (Blk.new w 40 (xs.map letL).flatten.toArray).sl 0 (xs.map letL).flatten.length
  rw [List.drop_zero, List.take_of_length_le (by simp)] at h
  exact h
def sentR (w : World) (xs : List LetM) (y : LetM) (i : Value) (wr : World) : Prop := ∃ k : Nat, k ≤ xs.length ∧ i = .int .i64 k ∧ y.x ∉ (xs.take k).map LetM.x ∧ Nw w wr
set_option maxRecDepth 100000 in
set_option maxHeartbeats 4000000 in
theorem sent_any (w : World) (F1 F2 : Nat → Prop) (A : Option Addr) (c : Nat) (xs : List LetM) (y : LetM) (h : Sl w F1 A (letsC xs)) (e1 : ∀ x ∈ xs, LetIn w F2 x) (hy : LetIn w F2 y) (hz : ∀ x ∈ xs, LetSz x) (hsz : xs.length ≤ 1000000000) :
    Calls Try.prog 11 #[.slice A xs.length c, .agg (letA y)] w fun e w' => e = .returned (.bool (decide (y.x ∈ xs.map LetM.x))) ∧ Nw w w' := by
  have HE := Lib.hid e1
  have HZ := Lib.hid hz
  obtain ⟨G, hG⟩ : ∃ G, G = w.heap.size := ⟨_, rfl⟩
  obtain ⟨W0, hW0⟩ : ∃ W, W = w.alloc (.cells #[U8V y.kind, I64 y.group, I64 y.src, I64 y.dst, I64 y.term, I64 y.index, I64 y.logt, I64 y.commit, .bool y.ok, .slice y.ents.a y.ents.l.length y.ents.c, I64 y.base.index, I64 y.base.term, .slice y.base.cfg.v.a y.base.cfg.v.l.length y.base.cfg.v.c, .slice y.base.cfg.o.a y.base.cfg.o.l.length y.base.cfg.o.c, .slice y.base.cfg.l.a y.base.cfg.l.l.length y.base.cfg.l.c, .slice y.base.cfg.w.a y.base.cfg.w.l.length y.base.cfg.w.c, I64 y.size, I64 y.at_, I64 y.tag, .slice y.bytes.a y.bytes.l.length y.bytes.c] 40) := ⟨_, rfl⟩
  have p0 : Nw w W0 := by rw [hW0]; exact (Fr.refl (fun _ => False) _).alloc _
  have g0 : Blk W0 G 40 #[U8V y.kind, I64 y.group, I64 y.src, I64 y.dst, I64 y.term, I64 y.index, I64 y.logt, I64 y.commit, .bool y.ok, .slice y.ents.a y.ents.l.length y.ents.c, I64 y.base.index, I64 y.base.term, .slice y.base.cfg.v.a y.base.cfg.v.l.length y.base.cfg.v.c, .slice y.base.cfg.o.a y.base.cfg.o.l.length y.base.cfg.o.c, .slice y.base.cfg.l.a y.base.cfg.l.l.length y.base.cfg.l.c, .slice y.base.cfg.w.a y.base.cfg.w.l.length y.base.cfg.w.c, I64 y.size, I64 y.at_, I64 y.tag, .slice y.bytes.a y.bytes.l.length y.bytes.c] := by rw [hW0, hG]; exact Blk.new _ _ _
  have s0 := h.fr p0 (fun _ _ h => h)
  have y0 := hy.nw p0
  obtain ⟨r, hr⟩ : ∃ r, r = decide (y.x ∈ xs.map LetM.x) := ⟨_, rfl⟩
  rw [← hr]
  have HR := Lib.hid hr
  have HG := Lib.hid hG
  have HW0 := Lib.hid hW0
  clear e1 hz hr hG hW0
  go_enter Try.func11, Try.ntmps11
  go_upto_region 1 with (fail)
  rw [← HG.out, ← HW0.out]
  go_wp2_with fail
  go_loopw [5] (fun i wr => sentR W0 xs y i wr) (fun i _ => xs.length - (intOf i).toNat)
  case atStart => exact ⟨0, Nat.zero_le _, rfl, by simp, Fr.refl _ _⟩
  case round =>
    obtain ⟨k, hk, rfl, hno, hq⟩ := hrel
    have HNO := Lib.hid hno
    clear hno
    by_cases hlt : k < xs.length
    · have hi0 : (k : Int) < (xs.length : Int) := by omega
      obtain ⟨b, o, rfl, _, _, hc⟩ := (s0.fr hq (fun _ _ h => h)).let_ hlt
      have x1 := (HE.out _ (List.getElem_mem hlt)).nw (p0.tr hq)
      have z1 := HZ.out _ (List.getElem_mem hlt)
      have y1 := y0.nw hq
      obtain ⟨x, hx⟩ : ∃ x, xs[k] = x := ⟨_, rfl⟩
      rw [hx] at x1 z1 hc
      have HX := Lib.hid hx
      obtain ⟨d, hd⟩ : ∃ d, d = decide (x.x = y.x) := ⟨_, rfl⟩
      have hsm : ∀ m : Later wr, Calls Try.prog 35 #[.agg #[U8V x.kind, I64 x.group, I64 x.src, I64 x.dst, I64 x.term, I64 x.index, I64 x.logt, I64 x.commit, .bool x.ok, .slice x.ents.a x.ents.l.length x.ents.c, I64 x.base.index, I64 x.base.term, .slice x.base.cfg.v.a x.base.cfg.v.l.length x.base.cfg.v.c, .slice x.base.cfg.o.a x.base.cfg.o.l.length x.base.cfg.o.c, .slice x.base.cfg.l.a x.base.cfg.l.l.length x.base.cfg.l.c, .slice x.base.cfg.w.a x.base.cfg.w.l.length x.base.cfg.w.c, I64 x.size, I64 x.at_, I64 x.tag, .slice x.bytes.a x.bytes.l.length x.bytes.c], .agg #[U8V y.kind, I64 y.group, I64 y.src, I64 y.dst, I64 y.term, I64 y.index, I64 y.logt, I64 y.commit, .bool y.ok, .slice y.ents.a y.ents.l.length y.ents.c, I64 y.base.index, I64 y.base.term, .slice y.base.cfg.v.a y.base.cfg.v.l.length y.base.cfg.v.c, .slice y.base.cfg.o.a y.base.cfg.o.l.length y.base.cfg.o.c, .slice y.base.cfg.l.a y.base.cfg.l.l.length y.base.cfg.l.c, .slice y.base.cfg.w.a y.base.cfg.w.l.length y.base.cfg.w.c, I64 y.size, I64 y.at_, I64 y.tag, .slice y.bytes.a y.bytes.l.length y.bytes.c]] m.at_ fun e w' => e = .returned (.bool d) ∧ Nw m.at_ w' := fun m => by
        rw [hd]
        exact same_let m.at_ F2 F2 x y (x1.nw m.nw) (y1.nw m.nw) z1
      have gk : ∀ w', (∃ n : Later wr, w' = n.at_) → ∀ p u, ([U8V y.kind, I64 y.group, I64 y.src, I64 y.dst, I64 y.term, I64 y.index, I64 y.logt, I64 y.commit, .bool y.ok, .slice y.ents.a y.ents.l.length y.ents.c, I64 y.base.index, I64 y.base.term, .slice y.base.cfg.v.a y.base.cfg.v.l.length y.base.cfg.v.c, .slice y.base.cfg.o.a y.base.cfg.o.l.length y.base.cfg.o.c, .slice y.base.cfg.l.a y.base.cfg.l.l.length y.base.cfg.l.c, .slice y.base.cfg.w.a y.base.cfg.w.l.length y.base.cfg.w.c, I64 y.size, I64 y.at_, I64 y.tag, .slice y.bytes.a y.bytes.l.length y.bytes.c] : List Value)[p]? = some u → w'.cell? ⟨G, 0 + p, none⟩ = some u := fun w' hw p u hu => by
        obtain ⟨n, rfl⟩ := hw
        exact Blk.cells_at (l := [U8V y.kind, I64 y.group, I64 y.src, I64 y.dst, I64 y.term, I64 y.index, I64 y.logt, I64 y.commit, .bool y.ok, .slice y.ents.a y.ents.l.length y.ents.c, I64 y.base.index, I64 y.base.term, .slice y.base.cfg.v.a y.base.cfg.v.l.length y.base.cfg.v.c, .slice y.base.cfg.o.a y.base.cfg.o.l.length y.base.cfg.o.c, .slice y.base.cfg.l.a y.base.cfg.l.l.length y.base.cfg.l.c, .slice y.base.cfg.w.a y.base.cfg.w.l.length y.base.cfg.w.c, I64 y.size, I64 y.at_, I64 y.tag, .slice y.bytes.a y.bytes.l.length y.bytes.c]) ((g0.fr hq (fun h => h)).fr n.nw (fun h => h)) 0 p u hu
      have xk : ∀ w', (∃ n : Later wr, w' = n.at_) → ∀ p u, ([U8V x.kind, I64 x.group, I64 x.src, I64 x.dst, I64 x.term, I64 x.index, I64 x.logt, I64 x.commit, .bool x.ok, .slice x.ents.a x.ents.l.length x.ents.c, I64 x.base.index, I64 x.base.term, .slice x.base.cfg.v.a x.base.cfg.v.l.length x.base.cfg.v.c, .slice x.base.cfg.o.a x.base.cfg.o.l.length x.base.cfg.o.c, .slice x.base.cfg.l.a x.base.cfg.l.l.length x.base.cfg.l.c, .slice x.base.cfg.w.a x.base.cfg.w.l.length x.base.cfg.w.c, I64 x.size, I64 x.at_, I64 x.tag, .slice x.bytes.a x.bytes.l.length x.bytes.c] : List Value)[p]? = some u → w'.cell? ⟨b, o + k * 20 + p, none⟩ = some u := fun w' hw p u hu => Later.cells hc w' hw p u hu
      have HD := Lib.hid hd
      have GK := Lib.hid gk
      have XK := Lib.hid xk
      have HSM := Lib.hid hsm
      clear hx hd gk xk hsm hc
      go_upto_region 4 with (fail)
      refine wp_region_later (by kernel_rfl) (by kernel_rfl) ?_
      iterate 3 (go_big_quiet_step (fail))
      refine quiet_load_cells (by kernel_rfl) 40 _ rfl b (o + k * 20) rfl _ _ XK.out Try.underlying40 rfl (by kernel_rfl) ?_
      simp only [Act.put, List.setIfInBounds_toArray, List.set_cons_succ, List.set_cons_zero]
      refine quiet_load_cells (by kernel_rfl) 40 _ rfl G 0 rfl _ _ GK.out Try.underlying40 rfl (by kernel_rfl) ?_
      simp only [Act.put, List.setIfInBounds_toArray, List.set_cons_succ, List.set_cons_zero]
      go_big_quiet_step ((go_at_call 35; exact Later.call (HSM.out _)))
      refine wpQuiet_later fun w5 q5 => ?_
      cases d
      case false =>
        go_wp2_with fail
        go_roundw
        case rel =>
          refine ⟨k + 1, hlt, by go_num, ?_, hq.tr q5⟩
          rw [List.take_succ_eq_append_getElem hlt, List.map_append, List.map_singleton, HX.out]
          intro hm
          rcases List.mem_append.1 hm with hm | hm
          · exact HNO.out hm
          · have h9 := (List.mem_singleton.1 hm).symm
            have := of_decide_eq_false HD.out.symm
            exact this h9
        case measure => simp [intOf]; omega
      case true =>
        go_wp2_with fail
        go_ret
        have h9 : x.x = y.x := of_decide_eq_true HD.out.symm
        have h8 : y.x ∈ xs.map LetM.x := by
          rw [← h9, ← HX.out]
          exact List.mem_map.2 ⟨_, List.getElem_mem hlt, rfl⟩
        refine ⟨?_, p0.tr (hq.tr q5)⟩
        rw [HR.out, decide_eq_true h8]
        rfl
    · obtain rfl : xs.length = k := by omega
      go_wp2_with fail
      go_ret
      have h8 := HNO.out
      rw [List.take_of_length_le (Nat.le_refl _)] at h8
      refine ⟨?_, p0.tr hq⟩
      rw [HR.out, decide_eq_false h8]
      rfl
/-- Blocks made since w have what colours they have; those ahead of it have none. -/
structure Aw (w w' : World) (col : Nat → Nat) : Prop where
  nw : Nw w w'
  z : ∀ k, k < w.heap.size → col k = 0
  cln : ∀ k, w'.heap.size ≤ k → col k = 0
theorem Aw.step {w w1 w2 : World} {col col' : Nat → Nat} {d : Nat} (h : Aw w w1 col) (e : Ext w1 w2 col col' d) (hd : d ≠ 0) : Aw w w2 col' :=
  ⟨e.nw_of h.nw (fun k hk e' => hd (e'.symm.trans (h.z k hk))), fun k hk => (e.ext k (Nat.lt_of_lt_of_le hk h.nw.size)).trans (h.z k hk), e.cln h.cln⟩
theorem Aw.tr {w w1 w2 : World} {col : Nat → Nat} (h : Aw w w1 col) (q : Nw w1 w2) : Aw w w2 col := ⟨h.nw.tr q, h.z, fun k hk => h.cln k (Nat.le_trans q.size hk)⟩
def pA : Nm → List LetF := (sendP (fun _ => []) [(toM 1).x, (toM 2).x]).1
theorem pA_at : pA (1, 2) = [(toM 1).x, (toM 2).x] := by decide
theorem pA_two : (sendP (fun _ => []) [(toM 1).x, (toM 2).x]).2 = 2 := by decide
theorem pA_off (n : Nm) (h : n ≠ (1, 2)) : pA n = [] := by
  have h2 : ¬ n = ((toM 1).x.src, (toM 1).x.dst) := h
  have h3 : ¬ n = ((toM 2).x.src, (toM 2).x.dst) := h
  have e1 : sendStep (fun _ => [], 0) (toM 1).x = (fun m => if m = ((toM 1).x.src, (toM 1).x.dst) then [] ++ [(toM 1).x] else [], 1) := by
    unfold sendStep
    rw [if_pos ⟨by decide, by decide⟩]
  unfold pA sendP
  rw [List.foldl_cons, List.foldl_cons, List.foldl_nil, e1]
  unfold sendStep
  split
  · simp only []
    rw [if_neg h3, if_neg h2]
  · simp only []
    rw [if_neg h2]
theorem pA_fw : fwP pA (1, 2) = (setP pA (1, 2) [(toM 2).x, (toM 1).x], true) := by unfold fwP; rw [pA_at]; rfl
theorem pA_rel : RelN (setP pA (1, 2) [(toM 2).x]) [(toM 2).x] := fun n => by
  unfold setP
  by_cases h : n = (1, 2)
  · rw [if_pos h, h]; decide
  · rw [if_neg h, pA_off n h, lnk_other (n := (1, 2)) (fun x hx => by rw [List.mem_singleton.1 hx]; rfl) h]
theorem way12 : NmWf (1, 2) := ⟨by decide, by decide⟩
set_option maxRecDepth 100000 in
set_option maxHeartbeats 8000000 in
theorem awake_any (w : World) : Calls Try.prog 6 #[] w fun e w' => e = .returned (.bool true) ∧ Nw w w' := by
  have hnew := nNew w (fun _ => 0) 1 (by decide)
  go_enter Try.func6, Try.ntmps6
  go_upto_region 2 with (go_at_call 8; refine hnew.mono ?_; rintro e w1 ⟨g, col1, rfl, x1, n1, q1⟩)
  have a1 : Aw w w1 col1 := Aw.step ⟨Fr.refl _ _, fun _ _ => rfl, fun _ _ => rfl⟩ x1 (by decide)
  clear x1 q1 hnew
  have hsd : ∀ w4 g4, Nw w1 w4 → w1.heap.size ≤ g4 → Sl w4 (· = g4) (some ⟨g4, 0, none⟩) (letsC [toM 1, toM 2]) → Calls Try.prog 16 #[.pointer (some ⟨g, 0, none⟩), .slice (some ⟨g4, 0, none⟩) 2 2] w4 fun e w' => e = .returned (I64 2) ∧ ∃ col', Aw w w' col' ∧ NetC w' col' 1 g 2 pA := fun w4 g4 q4 hg4 s4 => by
    refine (nSend (by decide) (n1.nw q4 (by decide)) (by omega) (· = g4) (some ⟨g4, 0, none⟩) 2 [toM 1, toM 2] s4 (fun x hx => ?_) (fun x hx => ?_) (by simp) (fun k hk e => ?_)).mono fun e w' hh => ?_
    · rcases List.mem_cons.1 hx with rfl | hx
      · exact LetIn.to_ _ _ _
      · rw [List.mem_singleton.1 hx]; exact LetIn.to_ _ _ _
    · rcases List.mem_cons.1 hx with rfl | hx
      · exact LetSz.to_ _
      · rw [List.mem_singleton.1 hx]; exact LetSz.to_ _
    · rw [hk, a1.cln g4 hg4] at e
      cases e
    · obtain ⟨h1, col', h2, h3⟩ := hh
      have e2 : (sendP (fun _ => []) ([toM 1, toM 2].map LetM.x)).2 = 2 := pA_two
      rw [e2] at h1
      exact ⟨h1, col', (a1.tr q4).step h2 (by decide), h3⟩
  go_upto_region 3 with (first | (go_at_call 30; refine (to_any w2 2).mono ?_; rintro e w3 ⟨rfl, q3⟩) | (go_at_call 30; refine (to_any w1 1).mono ?_; rintro e w2 ⟨rfl, q2⟩) | (refine wl_build rfl 27 2 _ 20 [letL (toM 1), letL (toM 2)] (.agg #[U8V 0, I64 0, I64 0, I64 0, I64 0, I64 0, I64 0, I64 0, .bool false, .slice none 0 0, I64 0, I64 0, .slice none 0 0, .slice none 0 0, .slice none 0 0, .slice none 0 0, I64 0, I64 0, I64 0, .slice none 0 0]) rfl Try.underlying27 (by kernel_rfl) rfl (by decide) (by decide) (by simp) (by decide) rfl ?_; intro g4 w4 hg4 hw4; obtain ⟨q4, s4⟩ := lets_slN [toM 1, toM 2] hg4 hw4; have hg5 : w1.heap.size ≤ g4 := (by rw [hg4]; exact (q2.tr q3).size); clear hg4 hw4) | (go_at_call 16; refine (hsd w4 g4 ((q2.tr q3).tr q4) hg5 s4).mono ?_; rintro e w5 ⟨rfl, col5, a5, n5⟩))
  clear hsd q2 q3 q4 s4 hg5 n1 a1
  have hcp := nCopy (by decide) n5 (by omega) 2 (by decide)
  go_upto_region 4 with (go_at_call 31; refine hcp.mono ?_; rintro e w6 ⟨g2, col6, rfl, x6, m6, q6⟩)
  have a6 := a5.step x6 (by decide)
  have n6 := n5.ext x6 (by decide) (by decide) (by decide)
  clear hcp x6 q6 a5 n5
  have hd1 := nDeliver1 (by decide) n6 (by omega) 1 2 way12 pA_at
  go_upto_region 5 with (first | (go_at_call 10; refine hd1.mono ?_; rintro e w7 ⟨x, rfl, ex, i7, z7, x7, n7⟩; obtain ⟨D, hD⟩ : ∃ D, D = w7.heap.size := ⟨_, rfl⟩; obtain ⟨V0, hV0⟩ : ∃ V, V = w7.alloc (.cells #[U8V 0, I64 0, I64 0, I64 0, I64 0, I64 0, I64 0, I64 0, .bool false, .slice none 0 0, I64 0, I64 0, .slice none 0 0, .slice none 0 0, .slice none 0 0, .slice none 0 0, I64 0, I64 0, I64 0, .slice none 0 0] 40) := ⟨_, rfl⟩; have q0 : Nw w7 V0 := (by rw [hV0]; exact (Fr.refl (fun _ => False) _).alloc _); have y0 : Blk V0 D 40 #[U8V 0, I64 0, I64 0, I64 0, I64 0, I64 0, I64 0, I64 0, .bool false, .slice none 0 0, I64 0, I64 0, .slice none 0 0, .slice none 0 0, .slice none 0 0, .slice none 0 0, I64 0, I64 0, I64 0, .slice none 0 0] := (by rw [hV0, hD]; exact Blk.new _ _ _); have th := Blk.there (l := [U8V 0, I64 0, I64 0, I64 0, I64 0, I64 0, I64 0, I64 0, .bool false, .slice none 0 0, I64 0, I64 0, .slice none 0 0, .slice none 0 0, .slice none 0 0, .slice none 0 0, I64 0, I64 0, I64 0, .slice none 0 0]) y0 0 20 (by show 0 + 20 ≤ 20; omega); have one := letA_one x; obtain ⟨V1, hV1⟩ : ∃ V, V = V0.setCells D 0 [U8V x.kind, I64 x.group, I64 x.src, I64 x.dst, I64 x.term, I64 x.index, I64 x.logt, I64 x.commit, .bool x.ok, .slice x.ents.a x.ents.l.length x.ents.c, I64 x.base.index, I64 x.base.term, .slice x.base.cfg.v.a x.base.cfg.v.l.length x.base.cfg.v.c, .slice x.base.cfg.o.a x.base.cfg.o.l.length x.base.cfg.o.c, .slice x.base.cfg.l.a x.base.cfg.l.l.length x.base.cfg.l.c, .slice x.base.cfg.w.a x.base.cfg.w.l.length x.base.cfg.w.c, I64 x.size, I64 x.at_, I64 x.tag, .slice x.bytes.a x.bytes.l.length x.bytes.c] := ⟨_, rfl⟩; have y1 : Blk V1 D 40 #[U8V x.kind, I64 x.group, I64 x.src, I64 x.dst, I64 x.term, I64 x.index, I64 x.logt, I64 x.commit, .bool x.ok, .slice x.ents.a x.ents.l.length x.ents.c, I64 x.base.index, I64 x.base.term, .slice x.base.cfg.v.a x.base.cfg.v.l.length x.base.cfg.v.c, .slice x.base.cfg.o.a x.base.cfg.o.l.length x.base.cfg.o.c, .slice x.base.cfg.l.a x.base.cfg.l.l.length x.base.cfg.l.c, .slice x.base.cfg.w.a x.base.cfg.w.l.length x.base.cfg.w.c, I64 x.size, I64 x.at_, I64 x.tag, .slice x.bytes.a x.bytes.l.length x.bytes.c] := (by rw [hV1]; exact Blk.setCells (l := [U8V 0, I64 0, I64 0, I64 0, I64 0, I64 0, I64 0, I64 0, .bool false, .slice none 0 0, I64 0, I64 0, .slice none 0 0, .slice none 0 0, .slice none 0 0, .slice none 0 0, I64 0, I64 0, I64 0, .slice none 0 0]) y0 0 [U8V x.kind, I64 x.group, I64 x.src, I64 x.dst, I64 x.term, I64 x.index, I64 x.logt, I64 x.commit, .bool x.ok, .slice x.ents.a x.ents.l.length x.ents.c, I64 x.base.index, I64 x.base.term, .slice x.base.cfg.v.a x.base.cfg.v.l.length x.base.cfg.v.c, .slice x.base.cfg.o.a x.base.cfg.o.l.length x.base.cfg.o.c, .slice x.base.cfg.l.a x.base.cfg.l.l.length x.base.cfg.l.c, .slice x.base.cfg.w.a x.base.cfg.w.l.length x.base.cfg.w.c, I64 x.size, I64 x.at_, I64 x.tag, .slice x.bytes.a x.bytes.l.length x.bytes.c]); have m1 : Fr (· = D) V0 V1 := (by rw [hV1]; exact (Fr.refl (· = D) _).setCells _ _); have q8 : Nw w7 V1 := q0.new m1 (fun b hb => by omega); have HD := Lib.hid hD; have HV0 := Lib.hid hV0; have HV1 := Lib.hid hV1; clear hD hV0 hV1 m1 q0 y0) | (rw [← HV0.out, ← HD.out]; refine wpList_store_mid rfl 40 _ _ rfl D 0 #[U8V x.kind, I64 x.group, I64 x.src, I64 x.dst, I64 x.term, I64 x.index, I64 x.logt, I64 x.commit, .bool x.ok, .slice x.ents.a x.ents.l.length x.ents.c, I64 x.base.index, I64 x.base.term, .slice x.base.cfg.v.a x.base.cfg.v.l.length x.base.cfg.v.c, .slice x.base.cfg.o.a x.base.cfg.o.l.length x.base.cfg.o.c, .slice x.base.cfg.l.a x.base.cfg.l.l.length x.base.cfg.l.c, .slice x.base.cfg.w.a x.base.cfg.w.l.length x.base.cfg.w.c, I64 x.size, I64 x.at_, I64 x.tag, .slice x.bytes.a x.bytes.l.length x.bytes.c] rfl rfl th (by kernel_rfl) one ?_; rw [← HV1.out]))
  have a7 := (a6.step x7 (by decide)).tr q8
  have m7 := (m6.ext x7 (by decide) (by decide) (by decide)).nw q8 (by decide)
  have n8 := n7.nw q8 (by decide)
  have tx : x.tag = 1 := congrArg LetF.tag ex
  have c18 : V1.cell? ⟨D, 18, none⟩ = some (I64 1) := by
    have := y1.cell 18
    rw [tx] at this
    simpa using this
  have hDl := y1.lt
  have cD : col6 D = 0 := (a6.step x7 (by decide)).cln D (Nat.le_of_eq HD.out.symm)
  clear hd1 n6 m6 a6 x7 n7 q8 th one y1 HV0 HV1 i7 z7 tx ex HD
  have hfw := nForward (by decide) m7 (by omega) 1 2 way12
  rw [pA_fw] at hfw
  go_upto_region 6 with (go_at_call 14; refine hfw.mono ?_; rintro e w9 ⟨rfl, col9, x9, m9⟩)
  have a9 := a7.step x9 (by decide)
  have n9 := n8.ext x9 (by decide) (by decide) (by decide)
  have k18 : w9.cell? ⟨D, 18, none⟩ = some (I64 1) := (x9.fr.cell (p := ⟨D, 18, none⟩) hDl (fun h => by have h1 := h.1; rw [cD] at h1; cases h1)).trans c18
  have cD9 : col9 D = 0 := (x9.ext D hDl).trans cD
  have hDl9 : D < w9.heap.size := Nat.lt_of_lt_of_le hDl x9.size
  clear hfw a7 n8 m7 x9 c18 cD hDl
  have hd2 := nDeliver1 (by decide) m9 (by omega) 1 2 way12 (y := (toM 2).x) (l := [(toM 1).x]) (by simp [setP])
  go_upto_region 7 with (first | (go_at_call 10; refine hd2.mono ?_; rintro e w10 ⟨x, rfl, ex, i7, z7, x10, m10⟩; obtain ⟨D2, hD⟩ : ∃ D2, D2 = w10.heap.size := ⟨_, rfl⟩; obtain ⟨V0, hV0⟩ : ∃ V, V = w10.alloc (.cells #[U8V 0, I64 0, I64 0, I64 0, I64 0, I64 0, I64 0, I64 0, .bool false, .slice none 0 0, I64 0, I64 0, .slice none 0 0, .slice none 0 0, .slice none 0 0, .slice none 0 0, I64 0, I64 0, I64 0, .slice none 0 0] 40) := ⟨_, rfl⟩; have q0 : Nw w10 V0 := (by rw [hV0]; exact (Fr.refl (fun _ => False) _).alloc _); have y0 : Blk V0 D2 40 #[U8V 0, I64 0, I64 0, I64 0, I64 0, I64 0, I64 0, I64 0, .bool false, .slice none 0 0, I64 0, I64 0, .slice none 0 0, .slice none 0 0, .slice none 0 0, .slice none 0 0, I64 0, I64 0, I64 0, .slice none 0 0] := (by rw [hV0, hD]; exact Blk.new _ _ _); have th := Blk.there (l := [U8V 0, I64 0, I64 0, I64 0, I64 0, I64 0, I64 0, I64 0, .bool false, .slice none 0 0, I64 0, I64 0, .slice none 0 0, .slice none 0 0, .slice none 0 0, .slice none 0 0, I64 0, I64 0, I64 0, .slice none 0 0]) y0 0 20 (by show 0 + 20 ≤ 20; omega); have one := letA_one x; obtain ⟨V1, hV1⟩ : ∃ V, V = V0.setCells D2 0 [U8V x.kind, I64 x.group, I64 x.src, I64 x.dst, I64 x.term, I64 x.index, I64 x.logt, I64 x.commit, .bool x.ok, .slice x.ents.a x.ents.l.length x.ents.c, I64 x.base.index, I64 x.base.term, .slice x.base.cfg.v.a x.base.cfg.v.l.length x.base.cfg.v.c, .slice x.base.cfg.o.a x.base.cfg.o.l.length x.base.cfg.o.c, .slice x.base.cfg.l.a x.base.cfg.l.l.length x.base.cfg.l.c, .slice x.base.cfg.w.a x.base.cfg.w.l.length x.base.cfg.w.c, I64 x.size, I64 x.at_, I64 x.tag, .slice x.bytes.a x.bytes.l.length x.bytes.c] := ⟨_, rfl⟩; have y1 : Blk V1 D2 40 #[U8V x.kind, I64 x.group, I64 x.src, I64 x.dst, I64 x.term, I64 x.index, I64 x.logt, I64 x.commit, .bool x.ok, .slice x.ents.a x.ents.l.length x.ents.c, I64 x.base.index, I64 x.base.term, .slice x.base.cfg.v.a x.base.cfg.v.l.length x.base.cfg.v.c, .slice x.base.cfg.o.a x.base.cfg.o.l.length x.base.cfg.o.c, .slice x.base.cfg.l.a x.base.cfg.l.l.length x.base.cfg.l.c, .slice x.base.cfg.w.a x.base.cfg.w.l.length x.base.cfg.w.c, I64 x.size, I64 x.at_, I64 x.tag, .slice x.bytes.a x.bytes.l.length x.bytes.c] := (by rw [hV1]; exact Blk.setCells (l := [U8V 0, I64 0, I64 0, I64 0, I64 0, I64 0, I64 0, I64 0, .bool false, .slice none 0 0, I64 0, I64 0, .slice none 0 0, .slice none 0 0, .slice none 0 0, .slice none 0 0, I64 0, I64 0, I64 0, .slice none 0 0]) y0 0 [U8V x.kind, I64 x.group, I64 x.src, I64 x.dst, I64 x.term, I64 x.index, I64 x.logt, I64 x.commit, .bool x.ok, .slice x.ents.a x.ents.l.length x.ents.c, I64 x.base.index, I64 x.base.term, .slice x.base.cfg.v.a x.base.cfg.v.l.length x.base.cfg.v.c, .slice x.base.cfg.o.a x.base.cfg.o.l.length x.base.cfg.o.c, .slice x.base.cfg.l.a x.base.cfg.l.l.length x.base.cfg.l.c, .slice x.base.cfg.w.a x.base.cfg.w.l.length x.base.cfg.w.c, I64 x.size, I64 x.at_, I64 x.tag, .slice x.bytes.a x.bytes.l.length x.bytes.c]); have m1 : Fr (· = D2) V0 V1 := (by rw [hV1]; exact (Fr.refl (· = D2) _).setCells _ _); have q11 : Nw w10 V1 := q0.new m1 (fun b hb => by omega); have HD := Lib.hid hD; have HV0 := Lib.hid hV0; have HV1 := Lib.hid hV1; clear hD hV0 hV1 m1 q0 y0) | (rw [← HV0.out, ← HD.out]; refine wpList_store_mid rfl 40 _ _ rfl D2 0 #[U8V x.kind, I64 x.group, I64 x.src, I64 x.dst, I64 x.term, I64 x.index, I64 x.logt, I64 x.commit, .bool x.ok, .slice x.ents.a x.ents.l.length x.ents.c, I64 x.base.index, I64 x.base.term, .slice x.base.cfg.v.a x.base.cfg.v.l.length x.base.cfg.v.c, .slice x.base.cfg.o.a x.base.cfg.o.l.length x.base.cfg.o.c, .slice x.base.cfg.l.a x.base.cfg.l.l.length x.base.cfg.l.c, .slice x.base.cfg.w.a x.base.cfg.w.l.length x.base.cfg.w.c, I64 x.size, I64 x.at_, I64 x.tag, .slice x.bytes.a x.bytes.l.length x.bytes.c] rfl rfl th (by kernel_rfl) one ?_; rw [← HV1.out]))
  have a11 := (a9.step x10 (by decide)).tr q11
  have n11 := (n9.ext x10 (by decide) (by decide) (by decide)).nw q11 (by decide)
  have tx : x.tag = 2 := congrArg LetF.tag ex
  have c18 : V1.cell? ⟨D2, 18, none⟩ = some (I64 2) := by
    have := y1.cell 18
    rw [tx] at this
    simpa using this
  have k11 : V1.cell? ⟨D, 18, none⟩ = some (I64 1) := (q11.cell (p := ⟨D, 18, none⟩) (Nat.lt_of_lt_of_le hDl9 x10.size) (fun h => h)).trans ((x10.fr.cell (p := ⟨D, 18, none⟩) hDl9 (fun h => by have h1 := h.1; rw [cD9] at h1; cases h1)).trans k18)
  clear hd2 n9 m9 a9 x10 m10 q11 th one y1 HV0 HV1 i7 z7 tx ex HD k18 cD9 hDl9
  have hmany : Calls Try.prog 20 #[.pointer (some ⟨g, 0, none⟩)] V1 fun e w' => e = .returned (I64 1) ∧ Nw V1 w' := nMany (by decide) n11 [(toM 2).x] pA_rel (by simp)
  go_wp2_with (go_at_call 20; refine hmany.mono ?_; rintro e w12 ⟨rfl, q12⟩)
  go_ret
  exact ⟨rfl, (a11.tr q12).nw⟩
end Go.Proofs.Ytippdjaakcgeoaa

namespace Go.Proofs.Ytippdjaakcgeoaa
open Go Go.RowKit
set_option linter.unusedVariables false
set_option linter.unusedSimpArgs false

theorem blk_ext {w w' : World} {col col' : Nat → Nat} {d g : Nat} {t : TypeId} {cs : Array Value} (h : Blk w g t cs) (hc : col g = 0) (e : Ext w w' col col' d) (hd : d ≠ 0) : Blk w' g t cs ∧ col' g = 0 :=
  ⟨h.fr e.fr (fun hh => hd (hh.1.symm.trans hc)), (e.ext g h.lt).trans hc⟩
/-- Two nets, three rows, a deed's copy. -/
structure OS (W w : World) (col : Nat → Nat) (gn gc Nn Nc : Nat) (p q : Nm → List LetF) (Aa : Option Addr) (ca : Nat) (al : List LetM) (Ap : Option Addr) (cp : Nat) (pu : List LetM) (At : Option Addr) (ct : Nat) (tl : List LetM) (E : Nat) (d : DeedN) : Prop where
  aw : Aw W w col
  n : NetC w col 1 gn Nn p
  c : NetC w col 2 gc Nc q
  la : LstC w col 3 Aa ca al
  lp : LstC w col 4 Ap cp pu
  lt : LstC w col 5 At ct tl
  blk : Blk w E 29 (deedNA d)
  cE : col E = 0
section
variable {W w w' : World} {col col' : Nat → Nat} {gn gc Nn Nc N' : Nat} {p q p' q' : Nm → List LetF} {Aa Aa' : Option Addr} {ca ca' : Nat} {al al' : List LetM} {Ap Ap' : Option Addr} {cp cp' : Nat} {pu pu' : List LetM} {At At' : Option Addr} {ct ct' : Nat} {tl tl' : List LetM} {E : Nat} {d : DeedN}
theorem OS.nw (h : OS W w col gn gc Nn Nc p q Aa ca al Ap cp pu At ct tl E d) (k : Nw w w') : OS W w' col gn gc Nn Nc p q Aa ca al Ap cp pu At ct tl E d :=
  ⟨h.aw.tr k, h.n.nw k (by decide), h.c.nw k (by decide), h.la.nw k, h.lp.nw k, h.lt.nw k, h.blk.fr k (fun h => h), h.cE⟩
theorem OS.s1 (h : OS W w col gn gc Nn Nc p q Aa ca al Ap cp pu At ct tl E d) (e : Ext w w' col col' 1) (n' : NetC w' col' 1 gn N' p') : OS W w' col' gn gc N' Nc p' q Aa ca al Ap cp pu At ct tl E d :=
  ⟨h.aw.step e (by decide), n', h.c.ext e (by decide) (by decide) (by decide), h.la.ext e (by decide) (by decide), h.lp.ext e (by decide) (by decide), h.lt.ext e (by decide) (by decide), (blk_ext h.blk h.cE e (by decide)).1, (blk_ext h.blk h.cE e (by decide)).2⟩
theorem OS.s2 (h : OS W w col gn gc Nn Nc p q Aa ca al Ap cp pu At ct tl E d) (e : Ext w w' col col' 2) (n' : NetC w' col' 2 gc N' q') : OS W w' col' gn gc Nn N' p q' Aa ca al Ap cp pu At ct tl E d :=
  ⟨h.aw.step e (by decide), h.n.ext e (by decide) (by decide) (by decide), n', h.la.ext e (by decide) (by decide), h.lp.ext e (by decide) (by decide), h.lt.ext e (by decide) (by decide), (blk_ext h.blk h.cE e (by decide)).1, (blk_ext h.blk h.cE e (by decide)).2⟩
theorem OS.s3 (h : OS W w col gn gc Nn Nc p q Aa ca al Ap cp pu At ct tl E d) (e : Ext w w' col col' 3) (n' : LstC w' col' 3 Aa' ca' al') : OS W w' col' gn gc Nn Nc p q Aa' ca' al' Ap cp pu At ct tl E d :=
  ⟨h.aw.step e (by decide), h.n.ext e (by decide) (by decide) (by decide), h.c.ext e (by decide) (by decide) (by decide), n', h.lp.ext e (by decide) (by decide), h.lt.ext e (by decide) (by decide), (blk_ext h.blk h.cE e (by decide)).1, (blk_ext h.blk h.cE e (by decide)).2⟩
theorem OS.s4 (h : OS W w col gn gc Nn Nc p q Aa ca al Ap cp pu At ct tl E d) (e : Ext w w' col col' 4) (n' : LstC w' col' 4 Ap' cp' pu') : OS W w' col' gn gc Nn Nc p q Aa ca al Ap' cp' pu' At ct tl E d :=
  ⟨h.aw.step e (by decide), h.n.ext e (by decide) (by decide) (by decide), h.c.ext e (by decide) (by decide) (by decide), h.la.ext e (by decide) (by decide), n', h.lt.ext e (by decide) (by decide), (blk_ext h.blk h.cE e (by decide)).1, (blk_ext h.blk h.cE e (by decide)).2⟩
theorem OS.s5 (h : OS W w col gn gc Nn Nc p q Aa ca al Ap cp pu At ct tl E d) (e : Ext w w' col col' 5) (n' : LstC w' col' 5 At' ct' tl') : OS W w' col' gn gc Nn Nc p q Aa ca al Ap cp pu At' ct' tl' E d :=
  ⟨h.aw.step e (by decide), h.n.ext e (by decide) (by decide) (by decide), h.c.ext e (by decide) (by decide) (by decide), h.la.ext e (by decide) (by decide), h.lp.ext e (by decide) (by decide), n', (blk_ext h.blk h.cE e (by decide)).1, (blk_ext h.blk h.cE e (by decide)).2⟩
end
theorem deedT_le (ds : List DeedN) (k : Nat) : deedT (ds.take k) ≤ deedT ds := by
  have h := List.take_append_drop k ds
  unfold deedT
  conv => rhs; rw [← h, List.map_append, List.sum_append]
  omega
/-- What holds at a loop's head, and, with a deed's copy, amid it. -/
def OnceAt (W : World) (gn gc N : Nat) (E : Nat) (d : DeedN) (v5 v6 v7 : Value) (wr : World) : Prop :=
  ∃ col p q Aa ca al Ap cp pu At ct tl, v5 = .slice Aa al.length ca ∧ v6 = .slice Ap pu.length cp ∧ v7 = .slice At tl.length ct ∧ OS W wr col gn gc N N p q Aa ca al Ap cp pu At ct tl E d ∧
    NetOk p (al.map LetM.x) ∧ CalmOk q (pu.map LetM.x) (tl.map LetM.x) ∧ al.length ≤ N ∧ pu.length ≤ N ∧ tl.length ≤ N
def onceJ (W : World) (gn gc Nn N0 : Nat) (p : Nm → List LetF) (Aa : Option Addr) (ca : Nat) (al : List LetM) (At : Option Addr) (ct : Nat) (tl : List LetM) (E : Nat) (d : DeedN) (v6 i : Value) (wr : World) : Prop :=
  ∃ k2 col q Ap cp pu, k2 ≤ d.l.l.length ∧ i = .int .i64 (k2 : Nat) ∧ v6 = .slice Ap pu.length cp ∧ OS W wr col gn gc Nn (N0 + k2) p q Aa ca al Ap cp pu At ct tl E d ∧ CalmOk q (pu.map LetM.x) (tl.map LetM.x) ∧ pu.length ≤ N0 + k2
def onceR (W : World) (gn gc : Nat) (ds : List DeedN) (v5 v6 v7 i : Value) (wr : World) : Prop :=
  ∃ k col p q Aa ca al Ap cp pu At ct tl, k ≤ ds.length ∧ i = .int .i64 (k : Nat) ∧ v5 = .slice Aa al.length ca ∧ v6 = .slice Ap pu.length cp ∧ v7 = .slice At tl.length ct ∧
    Aw W wr col ∧ NetC wr col 1 gn (k + deedT (ds.take k)) p ∧ NetC wr col 2 gc (k + deedT (ds.take k)) q ∧ LstC wr col 3 Aa ca al ∧ LstC wr col 4 Ap cp pu ∧ LstC wr col 5 At ct tl ∧
    NetOk p (al.map LetM.x) ∧ CalmOk q (pu.map LetM.x) (tl.map LetM.x) ∧ al.length ≤ k + deedT (ds.take k) ∧ pu.length ≤ k + deedT (ds.take k) ∧ tl.length ≤ k + deedT (ds.take k)
theorem NetOk.tw {p : Nm → List LetF} {all : List LetF} (h : NetOk p all) (n : Nm) : NetOk (twP p n).1 all := by
  unfold twP
  cases hp : p n with
  | nil => exact h
  | cons x l => exact h.send [x] (fun y hy => by rw [List.mem_singleton.1 hy]; exact h.sent n x (by rw [hp]; exact List.mem_cons_self))
theorem NetOk.fw {p : Nm → List LetF} {all : List LetF} (h : NetOk p all) (n : Nm) : NetOk (fwP p n).1 all := by
  unfold fwP
  cases hp : (p n).getLast? with
  | none => exact h
  | some x =>
    obtain ⟨ys, hy⟩ := List.getLast?_eq_some_iff.1 hp
    refine h.set n _ (fun y hy2 => ?_) ?_
    · rw [hy] at hy2 ⊢
      rw [List.dropLast_concat] at hy2
      rcases List.mem_cons.1 hy2 with rfl | hy2
      · simp
      · exact List.mem_append_left _ hy2
    · rw [hy, List.dropLast_concat]
      simp
theorem NetOk.tail {p : Nm → List LetF} {all : List LetF} (h : NetOk p all) (n : Nm) {y : LetF} {l : List LetF} (hp : p n = y :: l) : NetOk (setP p n l) all :=
  h.set n l (fun x hx => by rw [hp]; exact List.mem_cons_of_mem _ hx) (by rw [hp]; simp)
end Go.Proofs.Ytippdjaakcgeoaa

namespace Go.Proofs.Ytippdjaakcgeoaa
open Go Go.RowKit

theorem pick_any (w : World) (x n : Int) (hn : 0 < n) (hn2 : n ≤ 1000000000000) (hx : -9223372036854775808 ≤ x ∧ x ≤ 9223372036854775807) :
    Calls Try.prog 9 #[.int .i64 x, .int .i64 n] w fun e w' => (∃ k : Nat, (k : Int) < n ∧ e = .returned (.int .i64 (k : Int))) ∧ w = w' := by
  obtain ⟨h1, h2⟩ := hx
  go_enter Try.func9, Try.ntmps9
  go_wp2_with fail
  · go_ret
    have h3 := Int.lt_tmod_of_pos x hn
    have e : wrap64 (x.tmod n + n) = x.tmod n + n := IntWalk.wrap64_in _ (by omega)
    rw [e]
    exact ⟨⟨(x.tmod n + n).toNat, by omega, by go_num⟩, rfl⟩
  · go_ret
    have h3 := Int.tmod_lt_of_pos x hn
    exact ⟨⟨(x.tmod n).toNat, by omega, by go_num⟩, rfl⟩
end Go.Proofs.Ytippdjaakcgeoaa
