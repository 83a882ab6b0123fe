/- Lemmas of the walks: NcB, NcC, QTail, BgA, FtA. (Laid together by shake.py.) -/
import Derived.StillTail
import Derived.Deep.Quiet
import Derived.Deep.DeepCutAuto
import Derived.Test.YtippdjaakcgeoaaGreatNe01
import Derived.Test.YtippdjaakcgeoaaGreatNe04
import Derived.Test.YtippdjaakcgeoaaGreatNe05
import Derived.Test.YtippdjaakcgeoaaGreatNe10
import Derived.Test.YtippdjaakcgeoaaGreatNe14
import Derived.Test.YtippdjaakcgeoaaGreatNe17
import Derived.Test.YtippdjaakcgeoaaGreatNe19
set_option linter.unusedVariables false
set_option linter.unusedSimpArgs false
namespace Go.Proofs.YtippdjaakcgeoaaGreat
open Go Go.RowKit
set_option linter.unusedVariables false
set_option linter.unusedSimpArgs false
/-- A letter from 1 to 2. -/
def toM (k : Int) : LetM := ⟨2, 0, 1, 2, 1, 0, 0, 0, false, lsZ, basMZ, 0, 0, k, lsZ⟩
theorem LetIn.to_ (w : World) (F : Nat → Prop) (k : Int) : LetIn w F (toM k) := ⟨⟨by show (0 : Int) ≤ 2; omega, by show (2 : Int) ≤ 255; omega⟩, LsIn.nil w F entsC rfl, (by intro e he; cases he), CfgIn.zero w F, LsIn.nil w F bytesC rfl⟩
theorem LetSz.to_ (k : Int) : LetSz (toM k) := ⟨by show 0 ≤ 1000000; omega, (by intro e he; cases he), CfgSz.zero, by show 0 ≤ 1000000; omega⟩
set_option maxRecDepth 100000 in
set_option maxHeartbeats 4000000 in
theorem to_any (w : World) (k : Int) : Calls Tryz.prog 18 #[I64 k] w fun e w' => e = .returned (.agg (letA (toM k))) ∧ Nw w w' := by
  obtain ⟨Y, hY⟩ : ∃ Y, Y = w.heap.size := ⟨_, rfl⟩
  obtain ⟨W0, hW0⟩ : ∃ W, W = w.alloc (.cells #[U8V 0, I64 0, I64 0, I64 0, I64 0, I64 0, I64 0, I64 0, .bool false, .slice none 0 0, I64 0, I64 0, .slice none 0 0, .slice none 0 0, .slice none 0 0, .slice none 0 0, I64 0, I64 0, I64 0, .slice none 0 0] 50) := ⟨_, rfl⟩
  have p0 : Nw w W0 := by rw [hW0]; exact (Fr.refl (fun _ => False) _).alloc _
  have y0 : Blk W0 Y 50 #[U8V 0, I64 0, I64 0, I64 0, I64 0, I64 0, I64 0, I64 0, .bool false, .slice none 0 0, I64 0, I64 0, .slice none 0 0, .slice none 0 0, .slice none 0 0, .slice none 0 0, I64 0, I64 0, I64 0, .slice none 0 0] := by rw [hW0, hY]; exact Blk.new _ _ _
  have th := Blk.there (l := [U8V 0, I64 0, I64 0, I64 0, I64 0, I64 0, I64 0, I64 0, .bool false, .slice none 0 0, I64 0, I64 0, .slice none 0 0, .slice none 0 0, .slice none 0 0, .slice none 0 0, I64 0, I64 0, I64 0, .slice none 0 0]) y0 0 20 (by show 0 + 20 ≤ 20; omega)
  have one := letA_one (toM k)
  obtain ⟨W1, hW1⟩ : ∃ W, W = W0.setCells Y 0 [U8V 2, I64 0, I64 1, I64 2, I64 1, I64 0, I64 0, I64 0, .bool false, .slice none 0 0, I64 0, I64 0, .slice none 0 0, .slice none 0 0, .slice none 0 0, .slice none 0 0, I64 0, I64 0, I64 k, .slice none 0 0] := ⟨_, rfl⟩
  have y1 : Blk W1 Y 50 #[U8V 2, I64 0, I64 1, I64 2, I64 1, I64 0, I64 0, I64 0, .bool false, .slice none 0 0, I64 0, I64 0, .slice none 0 0, .slice none 0 0, .slice none 0 0, .slice none 0 0, I64 0, I64 0, I64 k, .slice none 0 0] := by rw [hW1]; exact Blk.setCells (l := [U8V 0, I64 0, I64 0, I64 0, I64 0, I64 0, I64 0, I64 0, .bool false, .slice none 0 0, I64 0, I64 0, .slice none 0 0, .slice none 0 0, .slice none 0 0, .slice none 0 0, I64 0, I64 0, I64 0, .slice none 0 0]) y0 0 [U8V 2, I64 0, I64 1, I64 2, I64 1, I64 0, I64 0, I64 0, .bool false, .slice none 0 0, I64 0, I64 0, .slice none 0 0, .slice none 0 0, .slice none 0 0, .slice none 0 0, I64 0, I64 0, I64 k, .slice none 0 0]
  have m1 : Fr (· = Y) W0 W1 := by rw [hW1]; exact (Fr.refl (· = Y) _).setCells _ _
  have Q1 : Nw w W1 := p0.new m1 (fun b hb => by omega)
  have HY := Lib.hid hY
  have HW0 := Lib.hid hW0
  have HW1 := Lib.hid hW1
  clear hY hW0 hW1 p0 y0 m1
  go_enter Tryz.func18, Tryz.ntmps18
  go_upto_region 1 with (fail)
  rw [← HY.out, ← HW0.out]
  go_wp2_with (refine wpList_store_mid rfl 50 _ _ rfl Y 0 #[U8V 2, I64 0, I64 1, I64 2, I64 1, I64 0, I64 0, I64 0, .bool false, .slice none 0 0, I64 0, I64 0, .slice none 0 0, .slice none 0 0, .slice none 0 0, .slice none 0 0, I64 0, I64 0, I64 k, .slice none 0 0] rfl rfl th (by kernel_rfl) one ?_; rw [← HW1.out])
  refine bodyPost_ret (v := .agg #[U8V 2, I64 0, I64 1, I64 2, I64 1, I64 0, I64 0, I64 0, .bool false, .slice none 0 0, I64 0, I64 0, .slice none 0 0, .slice none 0 0, .slice none 0 0, .slice none 0 0, I64 0, I64 0, I64 k, .slice none 0 0]) ?_ rfl ?_
  · exact results_cell_row rfl _ _ Y 50 _ (0, 0) _ rfl y1 Tryz.underlying50 rfl (by kernel_rfl)
  exact ⟨rfl, Q1⟩
/-! Few deeds. -/
def deedT (ds : List DeedN) : Nat := (ds.map fun d => d.l.l.length).sum
theorem deedT_take (ds : List DeedN) (k : Nat) (h : k < ds.length) : deedT (ds.take (k + 1)) = deedT (ds.take k) + ds[k].l.l.length := by
  unfold deedT
  rw [List.take_succ_eq_append_getElem h, List.map_append, List.sum_append]
  simp
theorem letT_pos (most : Nat) (x : LetM) : 1 ≤ letT most x := by unfold letT; omega
def Few (ds : List DeedN) : Prop := ds.length + deedT ds ≤ 400 ∧ ∀ d ∈ ds, ∀ x ∈ d.l.l, LetS 400 x
def ltI (w : World) (ds : List DeedN) (n i : Value) (wr : World) : Prop :=
  ∃ k t : Nat, k ≤ ds.length ∧ i = .int .i64 k ∧ n = .int .i64 t ∧ t ≤ 100000000000000000 ∧ (t ≤ 400 → ds.length + deedT (ds.take k) ≤ t ∧ ∀ j (h : j < ds.length), j < k → ∀ x ∈ ds[j].l.l, LetS 400 x) ∧ Nw w wr
def ltJ (w : World) (m : Nat) (l : List LetM) (n i : Value) (wr : World) : Prop :=
  ∃ k t : Nat, k ≤ l.length ∧ i = .int .i64 k ∧ n = .int .i64 t ∧ t ≤ 100000000000000000 ∧ (t ≤ 400 → m + k ≤ t ∧ ∀ j (h : j < l.length), j < k → LetS 400 l[j]) ∧ Nw w wr
set_option maxRecDepth 100000 in
set_option maxHeartbeats 8000000 in
theorem light_any (w : World) (F : Nat → Prop) (A : Option Addr) (c : Nat) (ds : List DeedN) (h : Sl w F A (deedsN ds)) (he : ∀ d ∈ ds, DeedNIn w F d) (hl : ds.length ≤ 1125899906842624) :
    Calls Tryz.prog 8 #[.slice A ds.length c] w fun e w' => ∃ b, e = .returned (.bool b) ∧ (b = true → Few ds) ∧ Nw w w' := by
  have HE := Lib.hid he
  clear he
  go_enter Tryz.func8, Tryz.ntmps8
  go_wp2_with fail
  go_loopw [3, 4] (fun n i wr => ltI w ds n i wr) (fun _ i _ => ds.length - (intOf i).toNat)
  case atStart => exact ⟨0, ds.length, Nat.zero_le _, rfl, rfl, by omega, fun _ => ⟨by simp [deedT], fun j _ hj => absurd hj (Nat.not_lt_zero _)⟩, Fr.refl _ _⟩
  case round =>
    obtain ⟨k, t, hk, rfl, rfl, htm, hall, hq⟩ := hrel
    obtain ⟨wo, hwo⟩ : ∃ wo, wo = wr := ⟨_, rfl⟩
    rw [← hwo] at hq ⊢
    have HALL := Lib.hid hall
    clear hall hwo
    by_cases hlt : k < ds.length
    · have hi0 : (k : Int) < (ds.length : Int) := by omega
      have hi1 : decide ((k : Int) < (ds.length : Int)) = true := decide_eq_true hi0
      by_cases hle : t ≤ 400
      · have hm1 : decide ((t : Int) ≤ 400) = true := decide_eq_true (by omega)
        obtain ⟨b, of, rfl, _, hbl, hc⟩ := (h.fr hq (fun _ _ h => h)).deedN hlt
        have hin := (HE.out _ (List.getElem_mem hlt)).nw hq
        obtain ⟨d, hd⟩ : ∃ d, ds[k] = d := ⟨_, rfl⟩
        rw [hd] at hc hin
        obtain ⟨S, hS⟩ : ∃ S, S = deedT (ds.take k) := ⟨_, rfl⟩
        have hall := (HALL.out hle).1
        rw [← hS] at hall
        have HS := Lib.hid hS
        have HD := Lib.hid hd
        clear hd hS
        have dl := hin.lets
        have dz := hin.bd
        have dlen := hin.len
        obtain ⟨⟨la, lc, l⟩, hls⟩ : ∃ s, s = d.l := ⟨_, rfl⟩
        have c3 : wo.cell? ⟨b, of + k * 4 + 3, none⟩ = some (.slice la l.length lc) := by
          have := hc 3 d.l.v rfl
          rw [← hls] at this
          exact this
        rw [← hls] at dl dz dlen
        have dsl := dl.ls.sl
        have din := dl.each
        dsimp only at dsl din dz dlen
        have HLS := Lib.hid hls
        clear hls hc hin dl
        go_wp2_with fail
        go_loopw [3, 5] (fun n i wq => ltJ wo (ds.length + S) l n i wq) (fun _ i _ => l.length - (intOf i).toNat)
        case atStart => exact ⟨0, t, Nat.zero_le _, rfl, rfl, htm, fun _ => ⟨hall, fun j _ hj => absurd hj (Nat.not_lt_zero _)⟩, Fr.refl _ _⟩
        case round =>
          obtain ⟨k2, t2, hk2, rfl, rfl, htm2, hall2, hq2⟩ := hrel
          have HALL2 := Lib.hid hall2
          clear hall2
          have c4 : wr.cell? ⟨b, of + k * 4 + 3, none⟩ = some (.slice la l.length lc) := (hq2.cell (p := ⟨b, of + k * 4 + 3, none⟩) hbl (fun h => h)).trans c3
          by_cases hlt2 : k2 < l.length
          · have hj0 : (k2 : Int) < (l.length : Int) := by omega
            have hj1 : decide ((k2 : Int) < (l.length : Int)) = true := decide_eq_true hj0
            by_cases hle2 : t2 ≤ 400
            · have hn1 : decide ((t2 : Int) ≤ 400) = true := decide_eq_true (by omega)
              obtain ⟨b2, o2, rfl, _, _, hc2⟩ := (dsl.fr hq2 (fun _ _ h => h)).let_ hlt2
              have xi := (din _ (List.getElem_mem hlt2)).nw hq2
              have xz := dz _ (List.getElem_mem hlt2)
              obtain ⟨x, hx⟩ : ∃ x, l[k2] = x := ⟨_, rfl⟩
              rw [hx] at hc2 xi xz
              have HX := Lib.hid hx
              have hlo := letof_any wr F x 400 xi xz (by omega)
              obtain ⟨q, hqq⟩ : ∃ q, q = letT 400 x := ⟨_, rfl⟩
              have hq1 := letT_pos 400 x
              rw [← hqq] at hlo hq1
              clear hx hqq
              go_wp2_with (first | (refine wl_load_cells rfl 50 _ rfl b2 (o2 + k2 * 20) rfl _ _ hc2 Tryz.underlying50 rfl (by kernel_rfl) ?_) | (go_at_call 48; refine hlo.mono ?_; rintro e w3 ⟨rfl, ⟨hb3, hs3⟩, q3⟩))
              go_roundw
              case rel =>
                refine ⟨k2 + 1, t2 + q, hlt2, by go_num, by go_num, by omega, fun h9 => ⟨by have := (HALL2.out hle2).1; omega, fun j hj hjk => ?_⟩, hq2.tr q3⟩
                by_cases hjk2 : j < k2
                · exact (HALL2.out hle2).2 j hj hjk2
                · obtain rfl : j = k2 := by omega
                  rw [HX.out]
                  exact (hs3 (by omega)).mono (by omega)
              case measure => simp [intOf]; omega
            · have hn1 : decide ((t2 : Int) ≤ 400) = false := decide_eq_false (by omega)
              go_wp2_with fail
              go_roundw
              case rel => exact ⟨k + 1, t2, hlt, by go_num, rfl, htm2, fun h9 => absurd h9 hle2, hq.tr hq2⟩
              case measure => simp [intOf]; omega
          · have hj1 : decide ((k2 : Int) < (l.length : Int)) = false := decide_eq_false (by omega)
            go_wp2_with fail
            go_roundw
            case rel =>
              refine ⟨k + 1, t2, hlt, by go_num, rfl, htm2, fun h9 => ?_, hq.tr hq2⟩
              obtain ⟨h5, h6⟩ := HALL2.out h9
              have hdl : ds[k].l.l = l := by rw [HD.out, ← HLS.out]
              refine ⟨by rw [deedT_take ds k hlt, ← HS.out, hdl]; omega, fun j hj hjk x hx => ?_⟩
              by_cases hjk2 : j < k
              · exact (HALL.out hle).2 j hj hjk2 x hx
              · obtain rfl : j = k := by omega
                rw [hdl] at hx
                obtain ⟨j2, hj2, rfl⟩ := List.mem_iff_getElem.1 hx
                exact h6 j2 hj2 (by omega)
            case measure => simp [intOf]; omega
      · have hm1 : decide ((t : Int) ≤ 400) = false := decide_eq_false (by omega)
        go_wp2_with fail
        go_ret
        exact ⟨false, rfl, fun h9 => (by cases h9), hq⟩
    · have hi1 : decide ((k : Int) < (ds.length : Int)) = false := decide_eq_false (by omega)
      go_wp2_with fail
      go_ret
      refine ⟨decide ((t : Int) ≤ 400), rfl, fun h9 => ?_, hq⟩
      have h8 : t ≤ 400 := by have := of_decide_eq_true h9; omega
      obtain ⟨h5, h6⟩ := HALL.out h8
      rw [List.take_of_length_le (by omega)] at h5
      exact ⟨by omega, fun d hd x hx => by
        obtain ⟨j, hj, rfl⟩ := List.mem_iff_getElem.1 hd
        exact h6 j hj (by omega) x hx⟩
end Go.Proofs.YtippdjaakcgeoaaGreat

namespace Go.Proofs.YtippdjaakcgeoaaGreat
open Go Go.RowKit
set_option linter.unusedVariables false
set_option linter.unusedSimpArgs false
theorem lets_slN {w w' : World} {g : Nat} (xs : List LetM) (hg : g = w.heap.size) (hw : w' = w.alloc (.cells (xs.map letL).flatten.toArray 50)) : Nw w w' ∧ Sl w' (· = g) (some ⟨g, 0, none⟩) (letsC xs) := by
  subst hg
  subst hw
  refine ⟨(Fr.refl (fun _ => False) w).alloc _, ?_⟩
  have h := (Blk.new w 50 (xs.map letL).flatten.toArray).sl 0 (xs.map letL).flatten.length
  rw [List.drop_zero, List.take_of_length_le (by simp)] at h
  exact h
/-- Blocks made since w have what colours they have; those ahead of it have none. -/
structure Aw (w w' : World) (col : Nat → Nat) : Prop where
  nw : Nw w w'
  z : ∀ k, k < w.heap.size → col k = 0
  cln : ∀ k, w'.heap.size ≤ k → col k = 0
theorem Aw.step {w w1 w2 : World} {col col' : Nat → Nat} {d : Nat} (h : Aw w w1 col) (e : Ext w1 w2 col col' d) (hd : d ≠ 0) : Aw w w2 col' :=
  ⟨e.nw_of h.nw (fun k hk e' => hd (e'.symm.trans (h.z k hk))), fun k hk => (e.ext k (Nat.lt_of_lt_of_le hk h.nw.size)).trans (h.z k hk), e.cln h.cln⟩
theorem Aw.tr {w w1 w2 : World} {col : Nat → Nat} (h : Aw w w1 col) (q : Nw w1 w2) : Aw w w2 col := ⟨h.nw.tr q, h.z, fun k hk => h.cln k (Nat.le_trans q.size hk)⟩
def pA : Nm → List LetF := (sendP (fun _ => []) [(toM 1).x, (toM 2).x]).1
theorem pA_at : pA (1, 2) = [(toM 1).x, (toM 2).x] := by decide
theorem pA_two : (sendP (fun _ => []) [(toM 1).x, (toM 2).x]).2 = 2 := by decide
theorem pA_off (n : Nm) (h : n ≠ (1, 2)) : pA n = [] := by
  have h2 : ¬ n = ((toM 1).x.src, (toM 1).x.dst) := h
  have h3 : ¬ n = ((toM 2).x.src, (toM 2).x.dst) := h
  have e1 : sendStep (fun _ => [], 0) (toM 1).x = (fun m => if m = ((toM 1).x.src, (toM 1).x.dst) then [] ++ [(toM 1).x] else [], 1) := by
    unfold sendStep
    rw [if_pos ⟨by decide, by decide⟩]
  unfold pA sendP
  rw [List.foldl_cons, List.foldl_cons, List.foldl_nil, e1]
  unfold sendStep
  split
  · simp only []
    rw [if_neg h3, if_neg h2]
  · simp only []
    rw [if_neg h2]
theorem pA_fw : fwP pA (1, 2) = (setP pA (1, 2) [(toM 2).x, (toM 1).x], true) := by unfold fwP; rw [pA_at]; rfl
theorem pA_rel : RelN (setP pA (1, 2) [(toM 2).x]) [(toM 2).x] := fun n => by
  unfold setP
  by_cases h : n = (1, 2)
  · rw [if_pos h, h]; decide
  · rw [if_neg h, pA_off n h, lnk_other (n := (1, 2)) (fun x hx => by rw [List.mem_singleton.1 hx]; rfl) h]
theorem way12 : NmWf (1, 2) := ⟨by decide, by decide⟩
set_option maxRecDepth 100000 in
set_option maxHeartbeats 8000000 in
theorem awake_any (w : World) : Calls Tryz.prog 9 #[] w fun e w' => e = .returned (.bool true) ∧ Nw w w' := by
  have hnew := nNew w (fun _ => 0) 1 (by decide)
  go_enter Tryz.func9, Tryz.ntmps9
  go_upto_region 2 with (go_at_call 10; refine hnew.mono ?_; rintro e w1 ⟨g, col1, rfl, x1, n1, q1⟩)
  have a1 : Aw w w1 col1 := Aw.step ⟨Fr.refl _ _, fun _ _ => rfl, fun _ _ => rfl⟩ x1 (by decide)
  clear x1 q1 hnew
  have hsd : ∀ w4 g4, Nw w1 w4 → w1.heap.size ≤ g4 → Sl w4 (· = g4) (some ⟨g4, 0, none⟩) (letsC [toM 1, toM 2]) → Calls Tryz.prog 19 #[.pointer (some ⟨g, 0, none⟩), .slice (some ⟨g4, 0, none⟩) 2 2] w4 fun e w' => e = .returned (I64 2) ∧ ∃ col', Aw w w' col' ∧ NetC w' col' 1 g 2 pA := fun w4 g4 q4 hg4 s4 => by
    refine (nSend (by decide) (n1.nw q4 (by decide)) (by omega) (· = g4) (some ⟨g4, 0, none⟩) 2 [toM 1, toM 2] s4 (fun x hx => ?_) (fun x hx => ?_) (by simp) (fun k hk e => ?_)).mono fun e w' hh => ?_
    · rcases List.mem_cons.1 hx with rfl | hx
      · exact LetIn.to_ _ _ _
      · rw [List.mem_singleton.1 hx]; exact LetIn.to_ _ _ _
    · rcases List.mem_cons.1 hx with rfl | hx
      · exact LetSz.to_ _
      · rw [List.mem_singleton.1 hx]; exact LetSz.to_ _
    · rw [hk, a1.cln g4 hg4] at e
      cases e
    · obtain ⟨h1, col', h2, h3⟩ := hh
      have e2 : (sendP (fun _ => []) ([toM 1, toM 2].map LetM.x)).2 = 2 := pA_two
      rw [e2] at h1
      exact ⟨h1, col', (a1.tr q4).step h2 (by decide), h3⟩
  go_upto_region 3 with (first | (go_at_call 18; refine (to_any w2 2).mono ?_; rintro e w3 ⟨rfl, q3⟩) | (go_at_call 18; refine (to_any w1 1).mono ?_; rintro e w2 ⟨rfl, q2⟩) | (refine wl_build rfl 28 2 _ 20 [letL (toM 1), letL (toM 2)] (.agg #[U8V 0, I64 0, I64 0, I64 0, I64 0, I64 0, I64 0, I64 0, .bool false, .slice none 0 0, I64 0, I64 0, .slice none 0 0, .slice none 0 0, .slice none 0 0, .slice none 0 0, I64 0, I64 0, I64 0, .slice none 0 0]) rfl Tryz.underlying28 (by kernel_rfl) rfl (by decide) (by decide) (by simp) (by decide) rfl ?_; intro g4 w4 hg4 hw4; obtain ⟨q4, s4⟩ := lets_slN [toM 1, toM 2] hg4 hw4; have hg5 : w1.heap.size ≤ g4 := (by rw [hg4]; exact (q2.tr q3).size); clear hg4 hw4) | (go_at_call 19; refine (hsd w4 g4 ((q2.tr q3).tr q4) hg5 s4).mono ?_; rintro e w5 ⟨rfl, col5, a5, n5⟩))
  clear hsd q2 q3 q4 s4 hg5 n1 a1
  have hcp := nCopy (by decide) n5 (by omega) 2 (by decide)
  go_upto_region 4 with (go_at_call 12; refine hcp.mono ?_; rintro e w6 ⟨g2, col6, rfl, x6, m6, q6⟩)
  have a6 := a5.step x6 (by decide)
  have n6 := n5.ext x6 (by decide) (by decide) (by decide)
  clear hcp x6 q6 a5 n5
  have hd1 := nDeliver1 (by decide) n6 (by omega) 1 2 way12 pA_at
  go_upto_region 5 with (first | (go_at_call 21; refine hd1.mono ?_; rintro e w7 ⟨x, rfl, ex, i7, z7, x7, n7⟩; obtain ⟨D, hD⟩ : ∃ D, D = w7.heap.size := ⟨_, rfl⟩; obtain ⟨V0, hV0⟩ : ∃ V, V = w7.alloc (.cells #[U8V 0, I64 0, I64 0, I64 0, I64 0, I64 0, I64 0, I64 0, .bool false, .slice none 0 0, I64 0, I64 0, .slice none 0 0, .slice none 0 0, .slice none 0 0, .slice none 0 0, I64 0, I64 0, I64 0, .slice none 0 0] 50) := ⟨_, rfl⟩; have q0 : Nw w7 V0 := (by rw [hV0]; exact (Fr.refl (fun _ => False) _).alloc _); have y0 : Blk V0 D 50 #[U8V 0, I64 0, I64 0, I64 0, I64 0, I64 0, I64 0, I64 0, .bool false, .slice none 0 0, I64 0, I64 0, .slice none 0 0, .slice none 0 0, .slice none 0 0, .slice none 0 0, I64 0, I64 0, I64 0, .slice none 0 0] := (by rw [hV0, hD]; exact Blk.new _ _ _); have th := Blk.there (l := [U8V 0, I64 0, I64 0, I64 0, I64 0, I64 0, I64 0, I64 0, .bool false, .slice none 0 0, I64 0, I64 0, .slice none 0 0, .slice none 0 0, .slice none 0 0, .slice none 0 0, I64 0, I64 0, I64 0, .slice none 0 0]) y0 0 20 (by show 0 + 20 ≤ 20; omega); have one := letA_one x; obtain ⟨V1, hV1⟩ : ∃ V, V = V0.setCells D 0 [U8V x.kind, I64 x.group, I64 x.src, I64 x.dst, I64 x.term, I64 x.index, I64 x.logt, I64 x.commit, .bool x.ok, .slice x.ents.a x.ents.l.length x.ents.c, I64 x.base.index, I64 x.base.term, .slice x.base.cfg.v.a x.base.cfg.v.l.length x.base.cfg.v.c, .slice x.base.cfg.o.a x.base.cfg.o.l.length x.base.cfg.o.c, .slice x.base.cfg.l.a x.base.cfg.l.l.length x.base.cfg.l.c, .slice x.base.cfg.w.a x.base.cfg.w.l.length x.base.cfg.w.c, I64 x.size, I64 x.at_, I64 x.tag, .slice x.bytes.a x.bytes.l.length x.bytes.c] := ⟨_, rfl⟩; have y1 : Blk V1 D 50 #[U8V x.kind, I64 x.group, I64 x.src, I64 x.dst, I64 x.term, I64 x.index, I64 x.logt, I64 x.commit, .bool x.ok, .slice x.ents.a x.ents.l.length x.ents.c, I64 x.base.index, I64 x.base.term, .slice x.base.cfg.v.a x.base.cfg.v.l.length x.base.cfg.v.c, .slice x.base.cfg.o.a x.base.cfg.o.l.length x.base.cfg.o.c, .slice x.base.cfg.l.a x.base.cfg.l.l.length x.base.cfg.l.c, .slice x.base.cfg.w.a x.base.cfg.w.l.length x.base.cfg.w.c, I64 x.size, I64 x.at_, I64 x.tag, .slice x.bytes.a x.bytes.l.length x.bytes.c] := (by rw [hV1]; exact Blk.setCells (l := [U8V 0, I64 0, I64 0, I64 0, I64 0, I64 0, I64 0, I64 0, .bool false, .slice none 0 0, I64 0, I64 0, .slice none 0 0, .slice none 0 0, .slice none 0 0, .slice none 0 0, I64 0, I64 0, I64 0, .slice none 0 0]) y0 0 [U8V x.kind, I64 x.group, I64 x.src, I64 x.dst, I64 x.term, I64 x.index, I64 x.logt, I64 x.commit, .bool x.ok, .slice x.ents.a x.ents.l.length x.ents.c, I64 x.base.index, I64 x.base.term, .slice x.base.cfg.v.a x.base.cfg.v.l.length x.base.cfg.v.c, .slice x.base.cfg.o.a x.base.cfg.o.l.length x.base.cfg.o.c, .slice x.base.cfg.l.a x.base.cfg.l.l.length x.base.cfg.l.c, .slice x.base.cfg.w.a x.base.cfg.w.l.length x.base.cfg.w.c, I64 x.size, I64 x.at_, I64 x.tag, .slice x.bytes.a x.bytes.l.length x.bytes.c]); have m1 : Fr (· = D) V0 V1 := (by rw [hV1]; exact (Fr.refl (· = D) _).setCells _ _); have q8 : Nw w7 V1 := q0.new m1 (fun b hb => by omega); have HD := Lib.hid hD; have HV0 := Lib.hid hV0; have HV1 := Lib.hid hV1; clear hD hV0 hV1 m1 q0 y0) | (rw [← HV0.out, ← HD.out]; refine wpList_store_mid rfl 50 _ _ rfl D 0 #[U8V x.kind, I64 x.group, I64 x.src, I64 x.dst, I64 x.term, I64 x.index, I64 x.logt, I64 x.commit, .bool x.ok, .slice x.ents.a x.ents.l.length x.ents.c, I64 x.base.index, I64 x.base.term, .slice x.base.cfg.v.a x.base.cfg.v.l.length x.base.cfg.v.c, .slice x.base.cfg.o.a x.base.cfg.o.l.length x.base.cfg.o.c, .slice x.base.cfg.l.a x.base.cfg.l.l.length x.base.cfg.l.c, .slice x.base.cfg.w.a x.base.cfg.w.l.length x.base.cfg.w.c, I64 x.size, I64 x.at_, I64 x.tag, .slice x.bytes.a x.bytes.l.length x.bytes.c] rfl rfl th (by kernel_rfl) one ?_; rw [← HV1.out]))
  have a7 := (a6.step x7 (by decide)).tr q8
  have m7 := (m6.ext x7 (by decide) (by decide) (by decide)).nw q8 (by decide)
  have n8 := n7.nw q8 (by decide)
  have tx : x.tag = 1 := congrArg LetF.tag ex
  have c18 : V1.cell? ⟨D, 18, none⟩ = some (I64 1) := by
    have := y1.cell 18
    rw [tx] at this
    simpa using this
  have hDl := y1.lt
  have cD : col6 D = 0 := (a6.step x7 (by decide)).cln D (Nat.le_of_eq HD.out.symm)
  clear hd1 n6 m6 a6 x7 n7 q8 th one y1 HV0 HV1 i7 z7 tx ex HD
  have hfw := nForward (by decide) m7 (by omega) 1 2 way12
  rw [pA_fw] at hfw
  go_upto_region 6 with (go_at_call 26; refine hfw.mono ?_; rintro e w9 ⟨rfl, col9, x9, m9⟩)
  have a9 := a7.step x9 (by decide)
  have n9 := n8.ext x9 (by decide) (by decide) (by decide)
  have k18 : w9.cell? ⟨D, 18, none⟩ = some (I64 1) := (x9.fr.cell (p := ⟨D, 18, none⟩) hDl (fun h => by have h1 := h.1; rw [cD] at h1; cases h1)).trans c18
  have cD9 : col9 D = 0 := (x9.ext D hDl).trans cD
  have hDl9 : D < w9.heap.size := Nat.lt_of_lt_of_le hDl x9.size
  clear hfw a7 n8 m7 x9 c18 cD hDl
  have hd2 := nDeliver1 (by decide) m9 (by omega) 1 2 way12 (y := (toM 2).x) (l := [(toM 1).x]) (by simp [setP])
  go_upto_region 7 with (first | (go_at_call 21; refine hd2.mono ?_; rintro e w10 ⟨x, rfl, ex, i7, z7, x10, m10⟩; obtain ⟨D2, hD⟩ : ∃ D2, D2 = w10.heap.size := ⟨_, rfl⟩; obtain ⟨V0, hV0⟩ : ∃ V, V = w10.alloc (.cells #[U8V 0, I64 0, I64 0, I64 0, I64 0, I64 0, I64 0, I64 0, .bool false, .slice none 0 0, I64 0, I64 0, .slice none 0 0, .slice none 0 0, .slice none 0 0, .slice none 0 0, I64 0, I64 0, I64 0, .slice none 0 0] 50) := ⟨_, rfl⟩; have q0 : Nw w10 V0 := (by rw [hV0]; exact (Fr.refl (fun _ => False) _).alloc _); have y0 : Blk V0 D2 50 #[U8V 0, I64 0, I64 0, I64 0, I64 0, I64 0, I64 0, I64 0, .bool false, .slice none 0 0, I64 0, I64 0, .slice none 0 0, .slice none 0 0, .slice none 0 0, .slice none 0 0, I64 0, I64 0, I64 0, .slice none 0 0] := (by rw [hV0, hD]; exact Blk.new _ _ _); have th := Blk.there (l := [U8V 0, I64 0, I64 0, I64 0, I64 0, I64 0, I64 0, I64 0, .bool false, .slice none 0 0, I64 0, I64 0, .slice none 0 0, .slice none 0 0, .slice none 0 0, .slice none 0 0, I64 0, I64 0, I64 0, .slice none 0 0]) y0 0 20 (by show 0 + 20 ≤ 20; omega); have one := letA_one x; obtain ⟨V1, hV1⟩ : ∃ V, V = V0.setCells D2 0 [U8V x.kind, I64 x.group, I64 x.src, I64 x.dst, I64 x.term, I64 x.index, I64 x.logt, I64 x.commit, .bool x.ok, .slice x.ents.a x.ents.l.length x.ents.c, I64 x.base.index, I64 x.base.term, .slice x.base.cfg.v.a x.base.cfg.v.l.length x.base.cfg.v.c, .slice x.base.cfg.o.a x.base.cfg.o.l.length x.base.cfg.o.c, .slice x.base.cfg.l.a x.base.cfg.l.l.length x.base.cfg.l.c, .slice x.base.cfg.w.a x.base.cfg.w.l.length x.base.cfg.w.c, I64 x.size, I64 x.at_, I64 x.tag, .slice x.bytes.a x.bytes.l.length x.bytes.c] := ⟨_, rfl⟩; have y1 : Blk V1 D2 50 #[U8V x.kind, I64 x.group, I64 x.src, I64 x.dst, I64 x.term, I64 x.index, I64 x.logt, I64 x.commit, .bool x.ok, .slice x.ents.a x.ents.l.length x.ents.c, I64 x.base.index, I64 x.base.term, .slice x.base.cfg.v.a x.base.cfg.v.l.length x.base.cfg.v.c, .slice x.base.cfg.o.a x.base.cfg.o.l.length x.base.cfg.o.c, .slice x.base.cfg.l.a x.base.cfg.l.l.length x.base.cfg.l.c, .slice x.base.cfg.w.a x.base.cfg.w.l.length x.base.cfg.w.c, I64 x.size, I64 x.at_, I64 x.tag, .slice x.bytes.a x.bytes.l.length x.bytes.c] := (by rw [hV1]; exact Blk.setCells (l := [U8V 0, I64 0, I64 0, I64 0, I64 0, I64 0, I64 0, I64 0, .bool false, .slice none 0 0, I64 0, I64 0, .slice none 0 0, .slice none 0 0, .slice none 0 0, .slice none 0 0, I64 0, I64 0, I64 0, .slice none 0 0]) y0 0 [U8V x.kind, I64 x.group, I64 x.src, I64 x.dst, I64 x.term, I64 x.index, I64 x.logt, I64 x.commit, .bool x.ok, .slice x.ents.a x.ents.l.length x.ents.c, I64 x.base.index, I64 x.base.term, .slice x.base.cfg.v.a x.base.cfg.v.l.length x.base.cfg.v.c, .slice x.base.cfg.o.a x.base.cfg.o.l.length x.base.cfg.o.c, .slice x.base.cfg.l.a x.base.cfg.l.l.length x.base.cfg.l.c, .slice x.base.cfg.w.a x.base.cfg.w.l.length x.base.cfg.w.c, I64 x.size, I64 x.at_, I64 x.tag, .slice x.bytes.a x.bytes.l.length x.bytes.c]); have m1 : Fr (· = D2) V0 V1 := (by rw [hV1]; exact (Fr.refl (· = D2) _).setCells _ _); have q11 : Nw w10 V1 := q0.new m1 (fun b hb => by omega); have HD := Lib.hid hD; have HV0 := Lib.hid hV0; have HV1 := Lib.hid hV1; clear hD hV0 hV1 m1 q0 y0) | (rw [← HV0.out, ← HD.out]; refine wpList_store_mid rfl 50 _ _ rfl D2 0 #[U8V x.kind, I64 x.group, I64 x.src, I64 x.dst, I64 x.term, I64 x.index, I64 x.logt, I64 x.commit, .bool x.ok, .slice x.ents.a x.ents.l.length x.ents.c, I64 x.base.index, I64 x.base.term, .slice x.base.cfg.v.a x.base.cfg.v.l.length x.base.cfg.v.c, .slice x.base.cfg.o.a x.base.cfg.o.l.length x.base.cfg.o.c, .slice x.base.cfg.l.a x.base.cfg.l.l.length x.base.cfg.l.c, .slice x.base.cfg.w.a x.base.cfg.w.l.length x.base.cfg.w.c, I64 x.size, I64 x.at_, I64 x.tag, .slice x.bytes.a x.bytes.l.length x.bytes.c] rfl rfl th (by kernel_rfl) one ?_; rw [← HV1.out]))
  have a11 := (a9.step x10 (by decide)).tr q11
  have n11 := (n9.ext x10 (by decide) (by decide) (by decide)).nw q11 (by decide)
  have tx : x.tag = 2 := congrArg LetF.tag ex
  have c18 : V1.cell? ⟨D2, 18, none⟩ = some (I64 2) := by
    have := y1.cell 18
    rw [tx] at this
    simpa using this
  have k11 : V1.cell? ⟨D, 18, none⟩ = some (I64 1) := (q11.cell (p := ⟨D, 18, none⟩) (Nat.lt_of_lt_of_le hDl9 x10.size) (fun h => h)).trans ((x10.fr.cell (p := ⟨D, 18, none⟩) hDl9 (fun h => by have h1 := h.1; rw [cD9] at h1; cases h1)).trans k18)
  clear hd2 n9 m9 a9 x10 m10 q11 th one y1 HV0 HV1 i7 z7 tx ex HD k18 cD9 hDl9
  have hmany : Calls Tryz.prog 22 #[.pointer (some ⟨g, 0, none⟩)] V1 fun e w' => e = .returned (I64 1) ∧ Nw V1 w' := nMany (by decide) n11 [(toM 2).x] pA_rel (by simp)
  go_wp2_with (go_at_call 22; refine hmany.mono ?_; rintro e w12 ⟨rfl, q12⟩)
  go_ret
  exact ⟨rfl, (a11.tr q12).nw⟩
end Go.Proofs.YtippdjaakcgeoaaGreat

namespace Go.Proofs.YtippdjaakcgeoaaGreat
open Go Go.RowKit

section
variable {P : Program} {ops : Array Oper} {md : Region.Mode} {C : World → Prop}
/-- Whatever order the head is picked in, f operations from here on: then L. -/
def Head (P : Program) (md : Region.Mode) (ops : Array Oper) (C : World → Prop) (n : Nat) (L : Array Bool → Act → Prop) : Nat → Array Bool → Act → Prop
  | 0 => L
  | f + 1 => fun listed a => (∃ i, i ∈ Region.ready md ops listed) ∧ ∀ i, i ∈ Region.ready md ops listed → i < n ∧ qOp P ops C i (Head P md ops C n L f (listed.setIfInBounds i true)) a
theorem Head.to {n g : Nat} {L : Array Bool → Act → Prop} {Q : Exit → Act → World → Prop} (hL : ∀ listed a w, C w → L listed a → wpAny P md ops Q g listed a w) (f : Nat) (listed : Array Bool) (a : Act) (w : World) (hw : C w)
    (h : Head P md ops C n L f listed a) : wpAny P md ops Q (f + g) listed a w := by
  induction f generalizing listed a w with
  | zero => rw [Nat.zero_add]; exact hL _ _ _ hw h
  | succ f ih =>
    obtain ⟨⟨i0, hi0⟩, hall⟩ := h
    rw [Nat.add_right_comm]
    exact ⟨fun e => (by rw [e] at hi0; cases hi0), fun i hi => wpOp_of_qOp hw (fun a' w' hw' hk => ih _ _ _ hw' hk) (hall i hi).2⟩
theorem Head.take {n i : Nat} {o : Oper} {v : Value} {L : Array Bool → Act → Prop} (ho : ops[i]? = some o) (hsel : ∀ (j : Nat) (o : Oper) cs b, ops[j]? = some o → o.op ≠ .select cs b) (hs : Region.sinkB md ops n = true) (hc : Region.chainB md ops n = true) (hn : n < ops.size) (hin : i < n)
    (hL : ∀ listed a, L listed a → ∀ j ∈ Region.ready md ops listed, n ≤ j) (f : Nat) (listed : Array Bool) (a : Act) (inv : HeadInv md ops n listed)
    (hfree : ∀ j oj, ops[j]? = some oj → j ≠ i → listed.getD j true = false → (∀ e ∈ oj.after, Region.binds md e = true → e.on ≠ i) → o.apart ops oj = true)
    (hr : i ∈ Region.ready md ops listed) (hy : YieldsIn P ops C o v a) (H : Head P md ops C n L f (listed.setIfInBounds i true) (a.put o.dst v)) : Head P md ops C n L (f + 1) listed a := by
  induction f generalizing listed a with
  | zero =>
    have hun := (mem_ready.1 hr).1
    refine ⟨⟨i, hr⟩, fun j hj => ?_⟩
    have hjn : j < n := Nat.lt_of_not_le fun h => tail_waits hs hc hn inv _ i rfl hin hun j h hj
    refine ⟨hjn, ?_⟩
    rcases Nat.decEq j i with hne | rfl
    · have := hL _ _ H j (ready_mono hj hne); omega
    · exact hy.qOp ho H
  | succ f ih =>
    have hun := (mem_ready.1 hr).1
    refine ⟨⟨i, hr⟩, fun j hj => ?_⟩
    have hjn : j < n := Nat.lt_of_not_le fun h => tail_waits hs hc hn inv _ i rfl hin hun j h hj
    refine ⟨hjn, ?_⟩
    rcases Nat.decEq j i with hne | rfl
    · obtain ⟨hjun, oj, hoj, hall⟩ := mem_ready.1 hj
      have hnot : ∀ e ∈ oj.after, Region.binds md e = true → e.on ≠ i := fun e he hb heq => by
        have h1 := hall e he hb
        rw [heq, getD_both hun] at h1
        cases h1
      have h2 := qOp_put hoj (hfree j oj hoj hne hjun hnot) (fun cs b => hsel i o cs b ho) (fun cs b => hsel j oj cs b hoj) hy (H.2 j (ready_mono hj hne)).2
      refine qOp_mono (fun a' h3 => ih (listed.setIfInBounds j true) a' (inv.set hj hjn) (fun k ok hk hki hkn hno => hfree k ok hk hki ?_ hno) (ready_mono hr (Ne.symm hne)) h3.1 ?_) h2
      · rcases Nat.decEq j k with hjk | rfl
        · rw [getD_set_ne true hjk] at hkn; exact hkn
        · exact hjun
      · rw [Array.setIfInBounds_comm _ _ hne]
        exact h3.2
    · exact hy.qOp ho H
theorem Head.lex {n g : Nat} {Lq : Act → Prop} (hsel : Region.noSelect ops = true) (hs : Region.sinkB md ops n = true) (hc : Region.chainB md ops n = true) (hn : n < ops.size) (l : List Oper) (k : Nat) (listed : Array Bool) (a : Act)
    (hl : ∀ j, j < l.length → l[j]? = ops[k + j]?) (hk : k + l.length = n) (inv : HeadInv md ops n listed) (hB : Region.lexHead md ops g l.length k listed = true) (h : wpQuiet P ops C Lq l a) :
    Head P md ops C n (fun listed' a' => Region.seqB md ops g n listed' = true ∧ Lq a') l.length listed a := by
  induction l generalizing k listed a with
  | nil =>
    obtain rfl : k = n := by simpa using hk
    exact ⟨by simpa [Region.lexHead] using hB, h⟩
  | cons o l ih =>
    have h0 : ops[k]? = some o := by simpa using (hl 0 (by simp)).symm
    simp only [List.length_cons, Region.lexHead, Bool.and_eq_true] at hB hk
    obtain ⟨⟨hr, hf⟩, hB'⟩ := hB
    have hkn : k < n := by omega
    have hr' : k ∈ Region.ready md ops listed := by simpa using hr
    have hst : qOp P ops C k (wpQuiet P ops C Lq l) a := by unfold qOp; simp only [h0]; exact h
    obtain ⟨v, hy, hK⟩ := yieldsIn_of_qOp h0 hst
    exact Head.take h0 (Region.noSelect_spec hsel) hs hc hn hkn (fun _ _ hL => seqB_ready hL.1) l.length listed a inv (Region.free_spec h0 hf) hr' hy
      (ih (k + 1) _ _ (fun j hj => by have := hl (j + 1) (by simp; omega); simpa [Nat.add_assoc, Nat.add_comm 1 j] using this) (by omega) (inv.set hr' hkn) hB' hK)
end
/-- The region: its first n operations quiet in the worlds that come of w by new memory; then the tail. -/
theorem wp_region_later_tail {P : Program} {id : Nat} {Q : Exit → Act → World → Prop} {a : Act} {w : World} {l : List Oper} (n : Nat) (hm : P.follows .mixedOrders = true) (hB : Region.lexTailB .any l.toArray n = true)
    (h : wpQuiet P l.toArray (fun w' => ∃ m : Later w, w' = m.at_) (fun a' => ∀ w', Nw w w' → wpList P l.toArray Q (l.drop n) a' w') (l.take n) a) : (Code.region id l.toArray true).wp P Q a w := by
  simp only [Region.lexTailB, Bool.and_eq_true, decide_eq_true_eq] at hB
  obtain ⟨⟨⟨⟨hsel, hn⟩, hs⟩, hc⟩, hlex⟩ := hB
  have hn' : n < l.length := by simpa using hn
  have htl : (l.take n).length = n := by rw [List.length_take]; omega
  have hdl : (l.drop n).length = l.toArray.size - n := by simp
  have inv0 : HeadInv .any l.toArray n (Array.replicate l.toArray.size false) :=
    ⟨by simp, fun j oj _ hl => (by rw [getD_replicate_false] at hl; cases hl), fun t _ ht => getD_in (by simpa using ht) (getD_replicate_false _ _)⟩
  have H := Head.lex (md := .any) (g := l.toArray.size - n) hsel hs hc hn (l.take n) 0 _ a (fun j hj => by
    have hj' : j < n := by rw [htl] at hj; exact hj
    simp [hj']) (by simpa using htl) inv0 (by rw [htl]; exact hlex) h
  refine wp_region_any hm ?_
  have := Head.to (Q := Q) (g := l.toArray.size - n) (fun listed a' w' hw' hL => by
    obtain ⟨m, rfl⟩ := hw'
    have := wpAny_of_seq (md := .any) (Q' := Q) (l.drop n) n listed a' m.at_ (fun j => by simp [List.getElem?_drop]) (by rw [hdl]; exact hL.1) (hL.2 _ m.nw)
    rwa [hdl] at this) _ _ _ w.drew ⟨⟨w.drew, (Fr.refl _ w).drew⟩, rfl⟩ H
  rw [htl, show n + (l.toArray.size - n) = l.toArray.size by omega] at this
  exact this
end Go.Proofs.YtippdjaakcgeoaaGreat

namespace Go.Proofs.YtippdjaakcgeoaaGreat
open Go Go.RowKit
set_option linter.unusedVariables false
set_option linter.unusedSimpArgs false
/-- A bag's cells. -/
def bag4 (vi vb ve vl : Value) : Array Value := #[.slice none 0 0, .slice none 0 0, vi, .slice none 0 0, .slice none 0 0, vb, .slice none 0 0, .slice none 0 0, .slice none 0 0, .slice none 0 0, .slice none 0 0, .slice none 0 0, .slice none 0 0, .slice none 0 0, .slice none 0 0, .slice none 0 0, ve, .slice none 0 0, .slice none 0 0, vl, .slice none 0 0, .slice none 0 0]
/-- A bag made since w0: the headers of its lists, and where they lie. -/
structure BagAt (w0 w : World) (g : Nat) (hi hb he hl : List Value) (Bi : Option Addr) (ci : Nat) (Bb : Option Addr) (cb : Nat) (Be : Option Addr) (ce : Nat) (Bl : Option Addr) (cl : Nat) : Prop where
  b : Blk w g 115 (bag4 (.slice Bi hi.length ci) (.slice Bb hb.length cb) (.slice Be he.length ce) (.slice Bl hl.length cl))
  oi : Own w 41 1 Bi hi.length ci hi
  ob : Own w 48 1 Bb hb.length cb hb
  oe : Own w 43 1 Be he.length ce he
  ol : Own w 28 1 Bl hl.length cl hl
  hg : w0.heap.size ≤ g
  ni : ∀ k, inA Bi k → w0.heap.size ≤ k
  nb : ∀ k, inA Bb k → w0.heap.size ≤ k
  ne : ∀ k, inA Be k → w0.heap.size ≤ k
  nl : ∀ k, inA Bl k → w0.heap.size ≤ k
  nw : Nw w0 w
def BagSt (w0 w : World) (g : Nat) (hi hb he hl : List Value) : Prop := ∃ Bi ci Bb cb Be ce Bl cl, BagAt w0 w g hi hb he hl Bi ci Bb cb Be ce Bl cl
theorem BagSt.new {w : World} : BagSt w (w.alloc (.cells (bag4 (.slice none 0 0) (.slice none 0 0) (.slice none 0 0) (.slice none 0 0)) 115)) w.heap.size [] [] [] [] :=
  ⟨none, 0, none, 0, none, 0, none, 0, Blk.new _ _ _, Own.nil _ _ _, Own.nil _ _ _, Own.nil _ _ _, Own.nil _ _ _, Nat.le_refl _, fun k hk => (inA_none k hk).elim, fun k hk => (inA_none k hk).elim, fun k hk => (inA_none k hk).elim, fun k hk => (inA_none k hk).elim, (Fr.refl _ w).alloc _⟩
theorem BagSt.nw {w0 w w' : World} {g : Nat} {hi hb he hl : List Value} (h : BagSt w0 w g hi hb he hl) (q : Nw w w') : BagSt w0 w' g hi hb he hl := by
  obtain ⟨Bi, ci, Bb, cb, Be, ce, Bl, cl, h⟩ := h
  exact ⟨Bi, ci, Bb, cb, Be, ce, Bl, cl, { h with b := h.b.fr q (fun h => h), oi := h.oi.fr q (fun _ _ h => h), ob := h.ob.fr q (fun _ _ h => h), oe := h.oe.fr q (fun _ _ h => h), ol := h.ol.fr q (fun _ _ h => h), nw := h.nw.tr q }⟩
/-- What is not the bag's stays. -/
def BgKeep (w w' : World) : Prop := ∀ X t cs, Blk w X t cs → t ≠ 115 → t ≠ 41 → t ≠ 48 → t ≠ 43 → t ≠ 28 → Blk w' X t cs
theorem BgKeep.nw {w w' : World} (q : Nw w w') : BgKeep w w' := fun X t cs h _ _ _ _ _ => h.fr q (fun h => h)
theorem BgKeep.tr {w w' w2 : World} (h : BgKeep w w') (h2 : BgKeep w' w2) : BgKeep w w2 := fun X t cs b a1 a2 a3 a4 a5 => h2 X t cs (h X t cs b a1 a2 a3 a4 a5) a1 a2 a3 a4 a5
def BgTo (w0 w : World) (g : Nat) (hi hb he hl : List Value) (w' : World) : Prop := BagSt w0 w' g hi hb he hl ∧ BgKeep w w'
theorem BagSt.new_ {w0 w : World} {g : Nat} {hi hb he hl : List Value} (h : BagSt w0 w g hi hb he hl) : Nw w0 w := by
  obtain ⟨Bi, ci, Bb, cb, Be, ce, Bl, cl, h⟩ := h
  exact h.nw

theorem info_hi : (Tryz.prog.info? 41).map (fun i => (i.zero, i.size, i.bytes)) = some (some (.slice none 0 0), 1, 24) := by kernel_rfl
theorem BagAt.app_i {w0 w w1 : World} {g : Nat} {hi hb he hl : List Value} {Bi Bb Be Bl : Option Addr} {ci cb ce cl : Nat} {X : Option Addr} {n cx : Nat} {B' : Option Addr} {c' : Nat} (h : BagAt w0 w g hi hb he hl Bi ci Bb cb Be ce Bl cl)
    (hap : AppTo (w.alloc (.cells #[.slice X n cx] 41)) 41 1 Bi hi.length ci 1 hi [.slice X n cx] B' c' w1) :
    w1.cell? ⟨g, 2, none⟩ = some (.slice Bi hi.length ci) ∧ w1.frozen? ⟨g, 2, none⟩ = false ∧ BgTo w0 w g (hi ++ [.slice X n cx]) hb he hl (w1.setCell ⟨g, 2, none⟩ (.slice B' (hi.length + 1) c')) := by
  have ho := h.oi
  obtain ⟨ho1, q1, n1⟩ := hap.newOwn (h.nw.alloc _) h.ni
  have hb1 := (h.b.alloc (.cells #[.slice X n cx] 41)).fr hap.fr (fun hh => (ho.alloc (.cells #[.slice X n cx] 41)).ne_ (h.b.alloc _) (by decide) hh)
  have hg := h.hg
  have eb : ∀ k, inA Bb k → ¬ inA Bi k := h.oi.off2 h.ob (by decide)
  have ee : ∀ k, inA Be k → ¬ inA Bi k := h.oi.off2 h.oe (by decide)
  have el : ∀ k, inA Bl k → ¬ inA Bi k := h.oi.off2 h.ol (by decide)
  have pb := ((h.ob.alloc (.cells #[.slice X n cx] 41)).fr hap.fr eb).setCell (p := ⟨g, 2, none⟩) (fun hh => (h.ob.ne_ h.b (by decide)) hh) (.slice B' (hi.length + 1) c')
  have pe := ((h.oe.alloc (.cells #[.slice X n cx] 41)).fr hap.fr ee).setCell (p := ⟨g, 2, none⟩) (fun hh => (h.oe.ne_ h.b (by decide)) hh) (.slice B' (hi.length + 1) c')
  have pl := ((h.ol.alloc (.cells #[.slice X n cx] 41)).fr hap.fr el).setCell (p := ⟨g, 2, none⟩) (fun hh => (h.ol.ne_ h.b (by decide)) hh) (.slice B' (hi.length + 1) c')
  have hset := hb1.set_ 2 (.slice B' (hi.length + 1) c')
  have hlen : (hi ++ [Value.slice X n cx]).length = hi.length + 1 := by simp
  refine ⟨by rw [hb1.cell]; simp [bag4], hb1.frozen 2, ⟨B', c', Bb, cb, Be, ce, Bl, cl, ?_⟩, fun Y t cs hY a1 a2 a3 a4 a5 => ((hY.alloc (.cells #[.slice X n cx] 41)).fr hap.fr (fun hh => ho.ne_ hY (by assumption) hh)).far (p := ⟨g, 2, none⟩) (hY.ne_ h.b a1) _⟩
  exact ⟨by rw [hlen]; simpa [bag4] using hset, (by rw [hlen]; exact ho1.setCell (p := ⟨g, 2, none⟩) (fun hh => ho1.ne_ hb1 (by decide) hh) _), pb, pe, pl, hg, n1, h.nb, h.ne, h.nl, q1.setCell (p := ⟨g, 2, none⟩) (.inr hg) _⟩
theorem BagAt.cell_i {w0 w : World} {g : Nat} {hi hb he hl : List Value} {Bi Bb Be Bl : Option Addr} {ci cb ce cl : Nat} (h : BagAt w0 w g hi hb he hl Bi ci Bb cb Be ce Bl cl) : w.cell? ⟨g, 2, none⟩ = some (.slice Bi hi.length ci) := by
  rw [h.b.cell]; simp [bag4]
set_option maxRecDepth 100000 in
theorem putInts_bag (w0 w : World) (g : Nat) (hi hb he hl : List Value) (X : Option Addr) (n cx : Nat) (hst : BagSt w0 w g hi hb he hl) (hm : hi.length ≤ 1000000000) :
    Calls Tryz.prog 228 #[.pointer (some ⟨g, 0, none⟩), .slice X n cx] w fun e w' => e = .returned (.tuple #[]) ∧ BgTo w0 w g (hi ++ [.slice X n cx]) hb he hl w' := by
  obtain ⟨Bi, ci, Bb, cb, Be, ce, Bl, cl, h⟩ := hst
  have c5 := h.cell_i
  have hone : ∀ u ∈ [Value.slice X n cx], u.oneCell' = true := by simp [Value.oneCell']
  have ho := h.oi
  have hAP := fun B' c' w1 hap => h.app_i (B' := B') (c' := c') (w1 := w1) (X := X) (n := n) (cx := cx) hap
  have HAP := Lib.hid hAP
  clear hAP h
  obtain ⟨m, hmm⟩ : ∃ m, hi.length = m := ⟨_, rfl⟩
  rw [hmm] at c5 ho hm HAP
  clear hmm
  go_enter Tryz.func228, Tryz.ntmps228
  go_wp2_with (at_builtin; refine wl_append2 rfl _ _ _ rfl 24 (.slice none 0 0) Tryz.underlying96 info_hi rfl (by decide) rfl (ho.alloc _) rfl (sl_new w 41 [.slice X n cx] _ rfl) rfl hone (by omega) (by unfold maxLen; omega) ?_; intro B' c' w1 hap; obtain ⟨c51, f51, hfin⟩ := HAP.out _ _ _ hap; have HF := Lib.hid hfin; clear hfin)
  go_end0
  exact ⟨rfl, HF.out⟩

theorem info_hb : (Tryz.prog.info? 48).map (fun i => (i.zero, i.size, i.bytes)) = some (some (.slice none 0 0), 1, 24) := by kernel_rfl
theorem BagAt.app_b {w0 w w1 : World} {g : Nat} {hi hb he hl : List Value} {Bi Bb Be Bl : Option Addr} {ci cb ce cl : Nat} {X : Option Addr} {n cx : Nat} {B' : Option Addr} {c' : Nat} (h : BagAt w0 w g hi hb he hl Bi ci Bb cb Be ce Bl cl)
    (hap : AppTo (w.alloc (.cells #[.slice X n cx] 48)) 48 1 Bb hb.length cb 1 hb [.slice X n cx] B' c' w1) :
    w1.cell? ⟨g, 5, none⟩ = some (.slice Bb hb.length cb) ∧ w1.frozen? ⟨g, 5, none⟩ = false ∧ BgTo w0 w g hi (hb ++ [.slice X n cx]) he hl (w1.setCell ⟨g, 5, none⟩ (.slice B' (hb.length + 1) c')) := by
  have ho := h.ob
  obtain ⟨ho1, q1, n1⟩ := hap.newOwn (h.nw.alloc _) h.nb
  have hb1 := (h.b.alloc (.cells #[.slice X n cx] 48)).fr hap.fr (fun hh => (ho.alloc (.cells #[.slice X n cx] 48)).ne_ (h.b.alloc _) (by decide) hh)
  have hg := h.hg
  have ei : ∀ k, inA Bi k → ¬ inA Bb k := h.ob.off2 h.oi (by decide)
  have ee : ∀ k, inA Be k → ¬ inA Bb k := h.ob.off2 h.oe (by decide)
  have el : ∀ k, inA Bl k → ¬ inA Bb k := h.ob.off2 h.ol (by decide)
  have pi := ((h.oi.alloc (.cells #[.slice X n cx] 48)).fr hap.fr ei).setCell (p := ⟨g, 5, none⟩) (fun hh => (h.oi.ne_ h.b (by decide)) hh) (.slice B' (hb.length + 1) c')
  have pe := ((h.oe.alloc (.cells #[.slice X n cx] 48)).fr hap.fr ee).setCell (p := ⟨g, 5, none⟩) (fun hh => (h.oe.ne_ h.b (by decide)) hh) (.slice B' (hb.length + 1) c')
  have pl := ((h.ol.alloc (.cells #[.slice X n cx] 48)).fr hap.fr el).setCell (p := ⟨g, 5, none⟩) (fun hh => (h.ol.ne_ h.b (by decide)) hh) (.slice B' (hb.length + 1) c')
  have hset := hb1.set_ 5 (.slice B' (hb.length + 1) c')
  have hlen : (hb ++ [Value.slice X n cx]).length = hb.length + 1 := by simp
  refine ⟨by rw [hb1.cell]; simp [bag4], hb1.frozen 5, ⟨Bi, ci, B', c', Be, ce, Bl, cl, ?_⟩, fun Y t cs hY a1 a2 a3 a4 a5 => ((hY.alloc (.cells #[.slice X n cx] 48)).fr hap.fr (fun hh => ho.ne_ hY (by assumption) hh)).far (p := ⟨g, 5, none⟩) (hY.ne_ h.b a1) _⟩
  exact ⟨by rw [hlen]; simpa [bag4] using hset, pi, (by rw [hlen]; exact ho1.setCell (p := ⟨g, 5, none⟩) (fun hh => ho1.ne_ hb1 (by decide) hh) _), pe, pl, hg, h.ni, n1, h.ne, h.nl, q1.setCell (p := ⟨g, 5, none⟩) (.inr hg) _⟩
theorem BagAt.cell_b {w0 w : World} {g : Nat} {hi hb he hl : List Value} {Bi Bb Be Bl : Option Addr} {ci cb ce cl : Nat} (h : BagAt w0 w g hi hb he hl Bi ci Bb cb Be ce Bl cl) : w.cell? ⟨g, 5, none⟩ = some (.slice Bb hb.length cb) := by
  rw [h.b.cell]; simp [bag4]
set_option maxRecDepth 100000 in
theorem putBytes_bag (w0 w : World) (g : Nat) (hi hb he hl : List Value) (X : Option Addr) (n cx : Nat) (hst : BagSt w0 w g hi hb he hl) (hm : hb.length ≤ 1000000000) :
    Calls Tryz.prog 92 #[.pointer (some ⟨g, 0, none⟩), .slice X n cx] w fun e w' => e = .returned (.tuple #[]) ∧ BgTo w0 w g hi (hb ++ [.slice X n cx]) he hl w' := by
  obtain ⟨Bi, ci, Bb, cb, Be, ce, Bl, cl, h⟩ := hst
  have c5 := h.cell_b
  have hone : ∀ u ∈ [Value.slice X n cx], u.oneCell' = true := by simp [Value.oneCell']
  have ho := h.ob
  have hAP := fun B' c' w1 hap => h.app_b (B' := B') (c' := c') (w1 := w1) (X := X) (n := n) (cx := cx) hap
  have HAP := Lib.hid hAP
  clear hAP h
  obtain ⟨m, hmm⟩ : ∃ m, hb.length = m := ⟨_, rfl⟩
  rw [hmm] at c5 ho hm HAP
  clear hmm
  go_enter Tryz.func92, Tryz.ntmps92
  go_wp2_with (at_builtin; refine wl_append2 rfl _ _ _ rfl 24 (.slice none 0 0) Tryz.underlying76 info_hb rfl (by decide) rfl (ho.alloc _) rfl (sl_new w 48 [.slice X n cx] _ rfl) rfl hone (by omega) (by unfold maxLen; omega) ?_; intro B' c' w1 hap; obtain ⟨c51, f51, hfin⟩ := HAP.out _ _ _ hap; have HF := Lib.hid hfin; clear hfin)
  go_end0
  exact ⟨rfl, HF.out⟩

theorem info_he : (Tryz.prog.info? 43).map (fun i => (i.zero, i.size, i.bytes)) = some (some (.slice none 0 0), 1, 24) := by kernel_rfl
theorem BagAt.app_e {w0 w w1 : World} {g : Nat} {hi hb he hl : List Value} {Bi Bb Be Bl : Option Addr} {ci cb ce cl : Nat} {X : Option Addr} {n cx : Nat} {B' : Option Addr} {c' : Nat} (h : BagAt w0 w g hi hb he hl Bi ci Bb cb Be ce Bl cl)
    (hap : AppTo (w.alloc (.cells #[.slice X n cx] 43)) 43 1 Be he.length ce 1 he [.slice X n cx] B' c' w1) :
    w1.cell? ⟨g, 16, none⟩ = some (.slice Be he.length ce) ∧ w1.frozen? ⟨g, 16, none⟩ = false ∧ BgTo w0 w g hi hb (he ++ [.slice X n cx]) hl (w1.setCell ⟨g, 16, none⟩ (.slice B' (he.length + 1) c')) := by
  have ho := h.oe
  obtain ⟨ho1, q1, n1⟩ := hap.newOwn (h.nw.alloc _) h.ne
  have hb1 := (h.b.alloc (.cells #[.slice X n cx] 43)).fr hap.fr (fun hh => (ho.alloc (.cells #[.slice X n cx] 43)).ne_ (h.b.alloc _) (by decide) hh)
  have hg := h.hg
  have ei : ∀ k, inA Bi k → ¬ inA Be k := h.oe.off2 h.oi (by decide)
  have eb : ∀ k, inA Bb k → ¬ inA Be k := h.oe.off2 h.ob (by decide)
  have el : ∀ k, inA Bl k → ¬ inA Be k := h.oe.off2 h.ol (by decide)
  have pi := ((h.oi.alloc (.cells #[.slice X n cx] 43)).fr hap.fr ei).setCell (p := ⟨g, 16, none⟩) (fun hh => (h.oi.ne_ h.b (by decide)) hh) (.slice B' (he.length + 1) c')
  have pb := ((h.ob.alloc (.cells #[.slice X n cx] 43)).fr hap.fr eb).setCell (p := ⟨g, 16, none⟩) (fun hh => (h.ob.ne_ h.b (by decide)) hh) (.slice B' (he.length + 1) c')
  have pl := ((h.ol.alloc (.cells #[.slice X n cx] 43)).fr hap.fr el).setCell (p := ⟨g, 16, none⟩) (fun hh => (h.ol.ne_ h.b (by decide)) hh) (.slice B' (he.length + 1) c')
  have hset := hb1.set_ 16 (.slice B' (he.length + 1) c')
  have hlen : (he ++ [Value.slice X n cx]).length = he.length + 1 := by simp
  refine ⟨by rw [hb1.cell]; simp [bag4], hb1.frozen 16, ⟨Bi, ci, Bb, cb, B', c', Bl, cl, ?_⟩, fun Y t cs hY a1 a2 a3 a4 a5 => ((hY.alloc (.cells #[.slice X n cx] 43)).fr hap.fr (fun hh => ho.ne_ hY (by assumption) hh)).far (p := ⟨g, 16, none⟩) (hY.ne_ h.b a1) _⟩
  exact ⟨by rw [hlen]; simpa [bag4] using hset, pi, pb, (by rw [hlen]; exact ho1.setCell (p := ⟨g, 16, none⟩) (fun hh => ho1.ne_ hb1 (by decide) hh) _), pl, hg, h.ni, h.nb, n1, h.nl, q1.setCell (p := ⟨g, 16, none⟩) (.inr hg) _⟩
theorem BagAt.cell_e {w0 w : World} {g : Nat} {hi hb he hl : List Value} {Bi Bb Be Bl : Option Addr} {ci cb ce cl : Nat} (h : BagAt w0 w g hi hb he hl Bi ci Bb cb Be ce Bl cl) : w.cell? ⟨g, 16, none⟩ = some (.slice Be he.length ce) := by
  rw [h.b.cell]; simp [bag4]

theorem info_hl : (Tryz.prog.info? 28).map (fun i => (i.zero, i.size, i.bytes)) = some (some (.slice none 0 0), 1, 24) := by kernel_rfl
theorem BagAt.app_l {w0 w w1 : World} {g : Nat} {hi hb he hl : List Value} {Bi Bb Be Bl : Option Addr} {ci cb ce cl : Nat} {X : Option Addr} {n cx : Nat} {B' : Option Addr} {c' : Nat} (h : BagAt w0 w g hi hb he hl Bi ci Bb cb Be ce Bl cl)
    (hap : AppTo (w.alloc (.cells #[.slice X n cx] 28)) 28 1 Bl hl.length cl 1 hl [.slice X n cx] B' c' w1) :
    w1.cell? ⟨g, 19, none⟩ = some (.slice Bl hl.length cl) ∧ w1.frozen? ⟨g, 19, none⟩ = false ∧ BgTo w0 w g hi hb he (hl ++ [.slice X n cx]) (w1.setCell ⟨g, 19, none⟩ (.slice B' (hl.length + 1) c')) := by
  have ho := h.ol
  obtain ⟨ho1, q1, n1⟩ := hap.newOwn (h.nw.alloc _) h.nl
  have hb1 := (h.b.alloc (.cells #[.slice X n cx] 28)).fr hap.fr (fun hh => (ho.alloc (.cells #[.slice X n cx] 28)).ne_ (h.b.alloc _) (by decide) hh)
  have hg := h.hg
  have ei : ∀ k, inA Bi k → ¬ inA Bl k := h.ol.off2 h.oi (by decide)
  have eb : ∀ k, inA Bb k → ¬ inA Bl k := h.ol.off2 h.ob (by decide)
  have ee : ∀ k, inA Be k → ¬ inA Bl k := h.ol.off2 h.oe (by decide)
  have pi := ((h.oi.alloc (.cells #[.slice X n cx] 28)).fr hap.fr ei).setCell (p := ⟨g, 19, none⟩) (fun hh => (h.oi.ne_ h.b (by decide)) hh) (.slice B' (hl.length + 1) c')
  have pb := ((h.ob.alloc (.cells #[.slice X n cx] 28)).fr hap.fr eb).setCell (p := ⟨g, 19, none⟩) (fun hh => (h.ob.ne_ h.b (by decide)) hh) (.slice B' (hl.length + 1) c')
  have pe := ((h.oe.alloc (.cells #[.slice X n cx] 28)).fr hap.fr ee).setCell (p := ⟨g, 19, none⟩) (fun hh => (h.oe.ne_ h.b (by decide)) hh) (.slice B' (hl.length + 1) c')
  have hset := hb1.set_ 19 (.slice B' (hl.length + 1) c')
  have hlen : (hl ++ [Value.slice X n cx]).length = hl.length + 1 := by simp
  refine ⟨by rw [hb1.cell]; simp [bag4], hb1.frozen 19, ⟨Bi, ci, Bb, cb, Be, ce, B', c', ?_⟩, fun Y t cs hY a1 a2 a3 a4 a5 => ((hY.alloc (.cells #[.slice X n cx] 28)).fr hap.fr (fun hh => ho.ne_ hY (by assumption) hh)).far (p := ⟨g, 19, none⟩) (hY.ne_ h.b a1) _⟩
  exact ⟨by rw [hlen]; simpa [bag4] using hset, pi, pb, pe, (by rw [hlen]; exact ho1.setCell (p := ⟨g, 19, none⟩) (fun hh => ho1.ne_ hb1 (by decide) hh) _), hg, h.ni, h.nb, h.ne, n1, q1.setCell (p := ⟨g, 19, none⟩) (.inr hg) _⟩
theorem BagAt.cell_l {w0 w : World} {g : Nat} {hi hb he hl : List Value} {Bi Bb Be Bl : Option Addr} {ci cb ce cl : Nat} (h : BagAt w0 w g hi hb he hl Bi ci Bb cb Be ce Bl cl) : w.cell? ⟨g, 19, none⟩ = some (.slice Bl hl.length cl) := by
  rw [h.b.cell]; simp [bag4]

end Go.Proofs.YtippdjaakcgeoaaGreat

namespace Go.Proofs.YtippdjaakcgeoaaGreat
open Go Go.RowKit
set_option linter.unusedVariables false
set_option linter.unusedSimpArgs false
section
variable {P : Program} {w : World} {E : TypeId} {z : Nat}
/-- 'make([]T, n)', whatever the size of T. -/
theorem wl_makeZ {ops : Array Oper} {rest : List Oper} {o : Oper} {a : Act} {Q : Exit → Act → World → Prop} (hgd : o.guard = none) (l c : Operand) (t : TypeId) (hop : o.op = Op.makeSlice t l c) (bytes : Nat) (zv : Value)
    (ht : P.underlying t = some (.slice E)) (hinfo : (P.info? E).map (fun i => (i.zero, i.size, i.bytes)) = some (some zv, z, bytes)) (kl kc : IntKind) (C1 C2 : Int) (n : Nat) (hl : a.eval l = .int kl C1) (hc : a.eval c = .int kc C2) (hC1 : C1 = (n : Int)) (hC2 : C2 = (n : Int))
    (hb : bytes * n ≤ 281474976710656) (hm : n ≤ maxLen)
    (h : ∀ w' cs, Own w' E z (some ⟨w.heap.size, 0, none⟩) n n cs → Nw w w' → wpList P ops Q rest (a.put o.dst (.slice (some ⟨w.heap.size, 0, none⟩) n n)) w') : wpList P ops Q (o :: rest) a w := by
  obtain ⟨i, hi, hz0, hz1, hz2⟩ := info_parts hinfo
  subst hz2
  refine wpList_make_full w hgd l c t hop 0 E i zv z ht hi hz0 hz1 kl kc C1 C2 n hl hc hC1 hC2 hb hm (Nat.zero_le _) fun w' r1 r2 => ?_
  obtain ⟨A, cap, he, ho⟩ := own_of_owns r1
  injection he with he1 he2 he3
  subst he1; subst he3
  exact h w' _ ho ⟨r2.os, r2.tape, r2.output, r2.size, fun k hk _ => r2.block k hk (by simp)⟩
end
theorem Own.thereAt {w : World} {E : TypeId} {z n c g : Nat} {cs : List Value} (h : Own w E z (some ⟨g, 0, none⟩) n c cs) {j : Nat} (hj : j < n) : w.there g (j * z) z := fun i hi => by
  have h1 : j * z + i < n * z := by
    have := Nat.mul_le_mul_right z (show j + 1 ≤ n from hj)
    rw [Nat.succ_mul] at this
    omega
  obtain ⟨u, hu⟩ := h.cellEx h1
  exact ⟨by rw [hu]; simp, h.frozenAt _⟩
/-- The cells of a grown list's place. -/
theorem conA_at {mk : Nat → Nat → List Value} {z : Nat} (hmk : ∀ k i, (mk k i).length = z) (N : Nat → Nat) (k j : Nat) (h : j < N k + 64) : ∀ p u, (mk k j)[p]? = some u → (conA mk N k)[j * z + p]? = some u := by
  intro p u hu
  have hp : p < z := by
    rcases Nat.lt_or_ge p z with h1 | h1
    · exact h1
    · rw [List.getElem?_eq_none (by rw [hmk]; exact h1)] at hu; cases hu
  unfold conA
  rw [mksL_at hmk k _ j p h hp]
  exact hu
theorem conB_at' {mk : Nat → Nat → List Value} {z : Nat} (hmk : ∀ k i, (mk k i).length = z) (m : Nat) (N : Nat → Nat) (k j : Nat) (h : j < N k) : ∀ p u, (mk k j)[p]? = some u → (conB mk m N k)[j * z + p]? = some u := by
  intro p u hu
  have hp : p < z := by
    rcases Nat.lt_or_ge p z with h1 | h1
    · exact h1
    · rw [List.getElem?_eq_none (by rw [hmk]; exact h1)] at hu; cases hu
  rw [conB_at hmk m N k j p h hp]
  exact hu
/-- The cells of the j-th of a list that has grown. -/
theorem grown_cells {w : World} {X : Option Addr} {con l : List Value} {z j : Nat} (hz : l.length = z) (hz0 : 0 < z) (hgx : ∀ i x, con[i]? = some x → ∃ g, X = some ⟨g, 0, none⟩ ∧ w.cell? ⟨g, i, none⟩ = some x) (h : ∀ p u, l[p]? = some u → con[j * z + p]? = some u) :
    ∃ g, X = some ⟨g, 0, none⟩ ∧ ∀ p u, l[p]? = some u → w.cell? ⟨g, j * z + p, none⟩ = some u := by
  obtain ⟨u0, hu0⟩ : ∃ u, l[0]? = some u := ⟨_, List.getElem?_eq_getElem (by omega)⟩
  obtain ⟨g, rfl, _⟩ := hgx _ _ (h 0 u0 hu0)
  refine ⟨g, rfl, fun p u hu => ?_⟩
  obtain ⟨g', hg', hc⟩ := hgx _ _ (h p u hu)
  injection hg' with hg'
  injection hg' with hg'
  rw [← hg'] at hc
  exact hc
theorem cells_nw {w w' : World} {g o : Nat} {l : List Value} (h : ∀ p u, l[p]? = some u → w.cell? ⟨g, o + p, none⟩ = some u) (q : Nw w w') : ∀ p u, l[p]? = some u → w'.cell? ⟨g, o + p, none⟩ = some u := fun p u hu => by
  have h1 := h p u hu
  exact (q.cell (p := ⟨g, o + p, none⟩) (World.block_lt_of_cell? _ _ h1) (fun h => h)).trans h1
end Go.Proofs.YtippdjaakcgeoaaGreat
