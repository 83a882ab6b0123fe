/- Lemmas of the walks: NoR, NoG, NoK, NcA, Bld. (Laid together by shake.py.) -/
import Derived.Test.YtippdjaakcgeoaaGreatNe01
import Derived.Test.YtippdjaakcgeoaaGreatNe05
import Derived.Test.YtippdjaakcgeoaaGreatNe06
import Derived.Test.YtippdjaakcgeoaaGreatNe07
import Derived.Test.YtippdjaakcgeoaaGreatNe09
set_option linter.unusedVariables false
set_option linter.unusedSimpArgs false
namespace Go.Proofs.YtippdjaakcgeoaaGreat
open Go Go.RowKit
set_option linter.unusedVariables false
set_option linter.unusedSimpArgs false

/-- What a net is behind a link dropped. -/
theorem IsNet.drop {w w' : World} {O I : Nat → Prop} {Y : NetM} (h : IsNet w O I Y) (n : Nm) (hM : WayMap w' Y.m Y.s (setW (fun x => (Y.f x).map Ls.v) n none)) (hf : Fr (· = Y.m) w w') :
    ∃ Y', IsNet w' O I Y' ∧ Y'.g = Y.g ∧ Y'.m = Y.m ∧ Y'.p = setP Y.p n [] ∧ Y'.s = Y.s := by
  have hfs := hf.size
  have hIs : ∀ k, I k → ¬ k = Y.m := fun k hk e => h.dis _ h.om (e ▸ hk)
  have N6 := h.set (n := n) (v := none) (O' := O) (I' := I) (s' := Y.s) (w' := w') hM hf h.gm (fun n' t _ ht k hk => (h.link n' t ht).off_map h.map k hk) hIs (fun _ h => h) (fun _ h => h) h.dis
    (fun k h8 => by have := h.ol _ h8; omega) (fun k h8 => by have := h.il _ h8; omega) (fun t ht => by cases ht)
  refine ⟨_, N6, rfl, rfl, ?_, rfl⟩
  funext m
  unfold setP
  by_cases e : m = n
  · subst e
    rw [NetM.p_none (by simp [setF]), if_pos rfl]
  · rw [if_neg e]
    unfold NetM.p
    simp [setF, e]
theorem setP_self {p : Nm → List LetF} {n : Nm} (h : p n = []) : setP p n [] = p := by
  funext m
  unfold setP
  split
  · rename_i e
    rw [e, h]
  · rfl
def takeR (w : World) (O I : Nat → Prop) (Y : NetM) (b : Int) (v i : Value) (wr : World) : Prop :=
  ∃ (k : Nat) (ys : List LetM) (A : Option Addr) (c : Nat) (Y2 : NetM), k ≤ 5 ∧ i = .int .i64 ((k : Int) + 1) ∧ v = .slice A ys.length c ∧ ys.length ≤ 40 * k ∧ ys.map LetM.x = (takeP Y.p b k).1 ∧ Own wr 50 20 A ys.length c (letsC ys) ∧ (∀ j, inA A j → w.heap.size ≤ j) ∧ (∀ y ∈ ys, LetIn wr I y ∧ LetSz y) ∧
    IsNet wr O I Y2 ∧ Y2.g = Y.g ∧ Y2.m = Y.m ∧ Y2.p = (takeP Y.p b k).2 ∧ Y2.s = Y.s ∧ Fr O w wr
set_option maxRecDepth 100000 in
set_option maxHeartbeats 4000000 in
theorem netTake_any (w : World) (O I : Nat → Prop) (Y : NetM) (h : IsNet w O I Y) (b : Int) (hb : -9223372036854775808 ≤ b ∧ b ≤ 9223372036854775807) :
    Calls Tryz.prog 23 #[.pointer (some ⟨Y.g, 0, none⟩), I64 b] w fun e w' => ∃ A c ys Y', e = .returned (.slice A ys.length c) ∧ ys.length ≤ 200 ∧ ys.map LetM.x = (takeP Y.p b 5).1 ∧ Own w' 50 20 A ys.length c (letsC ys) ∧ (∀ j, inA A j → w.heap.size ≤ j) ∧ (∀ y ∈ ys, LetIn w' I y ∧ LetSz y) ∧
      IsNet w' O I Y' ∧ Y'.g = Y.g ∧ Y'.m = Y.m ∧ Y'.p = (takeP Y.p b 5).2 ∧ Y'.s = Y.s ∧ Fr O w w' := by
  have hI := h.il
  have hO := h.ol
  have hd := h.dis
  go_enter Tryz.func23, Tryz.ntmps23
  go_wp2_with fail
  go_loopw [5, 6] (fun v i wr => takeR w O I Y b v i wr) (fun _ i _ => 6 - (intOf i).toNat)
  case atStart => exact ⟨0, [], none, 0, Y, Nat.zero_le _, rfl, rfl, Nat.zero_le _, rfl, Own.nil _ _ _, fun k hk => (inA_none k hk).elim, (by intro y hy; cases hy), h, rfl, rfl, rfl, rfl, Fr.refl _ _⟩
  case round =>
    obtain ⟨k, ys, A, c, Y2, hk, rfl, rfl, hl40, hys, ho, hA, hin, hN, eg, em, ep, es, hq⟩ := hrel
    have HYS := Lib.hid hys
    have HIN := Lib.hid hin
    have HP := Lib.hid ep
    have HEG := Lib.hid eg
    have HEM := Lib.hid em
    have HES := Lib.hid es
    rw [← eg]
    clear hys hin ep eg em es
    by_cases hlt : k < 5
    · have hi0 : (k : Int) + 1 ≤ 5 := by omega
      have hwf : NmWf ((k : Int) + 1, b) := by
        constructor
        · simp [Lit.wf, IntKind.min, IntKind.max, IntKind.signed, IntKind.bits]; omega
        · simp [Lit.wf, IntKind.min, IntKind.max, IntKind.signed, IntKind.bits]; omega
      obtain ⟨A1, c1, l1, hL⟩ := hN.link_or ((k : Int) + 1, b)
      have hw : Calls Tryz.prog 62 #[.pointer (some ⟨Y2.g, 0, none⟩), .agg #[I64 ((k : Int) + 1), I64 b]] wr fun e w' => e = .returned (.slice A1 l1.length c1) ∧ Nw wr w' := (netWaits_any wr Y2.g Y2.m Y2.s _ hN.blk hN.map ((k : Int) + 1, b) hwf).mono fun e w' h1 => ⟨by rw [h1.1, hL.val], h1.2⟩
      obtain ⟨n1, hn1⟩ : ∃ n1, n1 = l1.length := ⟨_, rfl⟩
      have hm1 := hL.most
      have hown1 := hL.own
      rw [← hn1] at hw hm1 hown1
      have HN1 := Lib.hid hn1
      have hT1 : (takeP Y.p b (k + 1)).1 = (takeP Y.p b k).1 ++ (takeP Y.p b k).2 (((k + 1 : Nat) : Int), b) := rfl
      have hT2 : (takeP Y.p b (k + 1)).2 = setP (takeP Y.p b k).2 (((k + 1 : Nat) : Int), b) [] := rfl
      have hkc : ((k + 1 : Nat) : Int) = (k : Int) + 1 := by omega
      rw [hkc] at hT1 hT2
      have HT1 := Lib.hid hT1
      have HT2 := Lib.hid hT2
      clear hT1 hT2 hn1 hkc
      by_cases h0 : n1 = 0
      · subst h0
        go_wp2_with (go_at_call 62; refine hw.mono ?_; rintro e w1 ⟨rfl, q1⟩)
        go_roundw
        case rel =>
          have hnil : Y2.p ((k : Int) + 1, b) = [] := by
            rw [← hL.p, List.eq_nil_of_length_eq_zero HN1.out.symm]
            rfl
          have hnil2 : (takeP Y.p b k).2 ((k : Int) + 1, b) = [] := by rw [← HP.out]; exact hnil
          exact ⟨k + 1, ys, A, c, Y2, by omega, by go_num, rfl, by omega, by rw [HT1.out, hnil2, List.append_nil]; exact HYS.out, ho.fr q1 (fun _ _ h => h), hA, fun y hy => ⟨(HIN.out y hy).1.nw q1, (HIN.out y hy).2⟩, hN.nw q1, HEG.out, HEM.out, by rw [HT2.out, setP_self hnil2]; exact HP.out, HES.out, hq.tr (Nw.on q1)⟩
        case measure => simp [intOf]; omega
      · have hi1 : (0 : Int) < (n1 : Int) := by omega
        have hb5 : ys.length ≤ 200 := by omega
        have hOA : ∀ j, O j → ¬ inA A j := fun j hj hh => by have := hO j hj; have := hA j hh; omega
        have hIA : ∀ j, I j → ¬ inA A j := fun j hj hh => by have := hI j hj; have := hA j hh; omega
        go_wp2_with (first | (go_at_call 62; refine hw.mono ?_; rintro e w1 ⟨rfl, q1⟩) | (at_builtin; refine wl_append2 rfl _ _ _ rfl 256 (.agg #[U8V 0, I64 0, I64 0, I64 0, I64 0, I64 0, I64 0, I64 0, .bool false, .slice none 0 0, I64 0, I64 0, .slice none 0 0, .slice none 0 0, .slice none 0 0, .slice none 0 0, I64 0, I64 0, I64 0, .slice none 0 0]) Tryz.underlying28 info_let rfl (by decide) rfl (ho.fr q1 (fun _ _ h => h)) rfl (hown1.fr q1 (fun _ _ h => h)).sl (by rw [letsC_len, HN1.out]) (letsC_cell _) (by omega) (by unfold maxLen; omega) ?_; intro B' c' w2 hap; have f2 := hap.fr; have N2 := (hN.nw q1).fr f2 hOA hIA; have y2 := N2.blk; have hcg := Blk.cells_at (l := [.map (some Y2.m)]) y2 0; have hdr := netSet_drop w2 Y2.m Y2.s _ N2.map ((k : Int) + 1, b) hwf none 0) | (refine wl_load_cells rfl 56 _ rfl Y2.g 0 rfl [.map (some Y2.m)] _ hcg Tryz.underlying56 rfl (by kernel_rfl) ?_) | (go_at_call 50; refine hdr.mono ?_; rintro e w3 ⟨rfl, hM3, f3⟩))
        go_roundw
        case rel =>
          obtain ⟨Y3, N3, eg3, em3, ep3, es3⟩ := N2.drop _ hM3 f3
          have hOm : ∀ j, inA B' j → ¬ j = Y2.m := fun j hj e => by
            have h5 := N2.om
            rcases hap.inA_ j hj with h6 | h6
            · exact hOA _ (e ▸ h5) h6
            · have := hN.ol _ h5; have := q1.size; omega
          have hIm : ∀ j, I j → ¬ j = Y2.m := fun j hj e => hd _ N2.om (e ▸ hj)
          refine ⟨k + 1, ys ++ l1, B', c', Y3, by omega, by go_num, ?_, ?_, ?_, ?_, ?_, ?_, N3, by rw [eg3]; exact HEG.out, by rw [em3]; exact HEM.out, ?_, by rw [es3]; exact HES.out, ?_⟩
          · rw [List.length_append, ← HN1.out]
          · rw [List.length_append, ← HN1.out]; omega
          · rw [List.map_append, HYS.out, hL.p, HT1.out, HP.out]
          · rw [List.length_append, ← HN1.out, letsC_append]
            exact hap.1.fr f3 hOm
          · intro j hj
            rcases hap.inA_ j hj with h6 | h6
            · exact hA j h6
            · have := hq.size; have := q1.size; omega
          · intro y hy
            rcases List.mem_append.1 hy with hy | hy
            · exact ⟨(((HIN.out y hy).1.nw q1).fr f2 hIA).fr f3 hIm, (HIN.out y hy).2⟩
            · exact ⟨(((hL.each y hy).nw q1).fr f2 hIA).fr f3 hIm, hL.sz y hy⟩
          · rw [HT2.out, ep3, HP.out]
          · exact ((hq.tr (Nw.on q1)).trans f2 (fun j hj => .inr (hA j hj))).tr (f3.mono fun j hj => .inl (by rw [hj]; exact N2.om))
        case measure => simp [intOf]; omega
    · obtain rfl : k = 5 := by omega
      go_wp2_with fail
      go_ret
      exact ⟨A, c, ys, Y2, rfl, by omega, HYS.out, ho, hA, HIN.out, hN, HEG.out, HEM.out, HP.out, HES.out, hq⟩
end Go.Proofs.YtippdjaakcgeoaaGreat

namespace Go.Proofs.YtippdjaakcgeoaaGreat
open Go Go.RowKit
set_option linter.unusedVariables false
set_option linter.unusedSimpArgs false

/-- A link behind its first. -/
def tailS (s : Ls LetM) : Option (Ls LetM) := if s.l.length = 1 then none else some ⟨cutA s.a s.c 1 20, s.c - 1, s.l.drop 1⟩
theorem tailS_x (s : Ls LetM) (h : 0 < s.l.length) : ((tailS s).map fun t => t.l.map LetM.x).getD [] = (s.l.map LetM.x).drop 1 := by
  unfold tailS
  split
  · rename_i e
    have : s.l.drop 1 = [] := List.drop_eq_nil_of_le (by omega)
    simp [← List.map_drop, this]
  · simp
theorem drop_letsC (l : List LetM) : (letsC l).drop 20 = letsC (l.drop 1) := by
  cases l with
  | nil => rfl
  | cons x l => simp [letsC, letF]
theorem tailS_in {w : World} {O I : Nat → Prop} {n : Nm} {s t : Ls LetM} (h : LinkIn w O I n s) (ht : tailS s = some t) : LinkIn w O I n t ∧ ∀ k, inA t.a k → inA s.a k := by
  have h1 := h.some_
  unfold tailS at ht
  split at ht
  · cases ht
  · rename_i hne
    injection ht with ht
    subst ht
    have ho := h.own.tail (by omega)
    rw [drop_letsC] at ho
    have hA : ∀ k, inA (cutA s.a s.c 1 20) k → inA s.a k := by
      intro k hk
      unfold cutA at hk
      split at hk
      · exact hk
      · cases hs : s.a with
        | none => rw [hs] at hk; exact hk
        | some a =>
          rw [hs] at hk
          obtain ⟨b, hb, rfl⟩ := hk
          simp only [Option.map_some, Option.some.injEq] at hb
          refine ⟨a, rfl, ?_⟩
          rw [← hb]
          unfold Addr.add
          split <;> rfl
    have hm : ∀ x ∈ s.l.drop 1, x ∈ s.l := fun x hx => List.mem_of_mem_drop hx
    refine ⟨⟨?_, fun k hk => h.base k (hA k hk), ?_, ?_, fun x hx => h.each x (hm x hx), fun x hx => h.sz x (hm x hx), fun x hx => h.ok x (hm x hx)⟩, hA⟩
    · show OwnO w 50 20 _ (s.l.drop 1).length _ _
      rw [List.length_drop]
      exact ho
    · show 0 < (s.l.drop 1).length
      rw [List.length_drop]; omega
    · show (s.l.drop 1).length ≤ 40
      rw [List.length_drop]; have := h.most; omega
/-- The link set to what is behind its first. -/
theorem netSet_tail (w : World) (m s : Nat) (f : Nm → Option Value) (hM : WayMap w m s f) (hs : s < maxLen) (a b : Int) (hn : NmWf (a, b)) (t : Ls LetM) (ht : 0 < t.l.length) :
    Calls Tryz.prog 50 #[.agg #[.map (some m)], .agg #[I64 a, I64 b], .slice (cutA t.a t.c 1 20) (t.l.length - 1) (t.c - 1)] w fun e w' => e = .returned (.tuple #[]) ∧ WayMap w' m (s + 1) (setW f (a, b) ((tailS t).map Ls.v)) ∧ Fr (· = m) w w' := by
  by_cases h1 : t.l.length = 1
  · have e : tailS t = none := by unfold tailS; rw [if_pos h1]
    rw [e, h1]
    exact (netSet_drop w m s f hM (a, b) hn _ _).mono fun e w' h => ⟨h.1, h.2.1.more (by omega), h.2.2⟩
  · have e : (tailS t).map Ls.v = some (.slice (cutA t.a t.c 1 20) (t.l.length - 1) (t.c - 1)) := by
      unfold tailS
      rw [if_neg h1]
      simp [Ls.v]
    rw [e]
    exact netSet_put w m s f hM hs (a, b) hn _ _ _ (by omega)
set_option maxRecDepth 100000 in
set_option maxHeartbeats 4000000 in
theorem netDeliver_none (w : World) (O I : Nat → Prop) (Y : NetM) (h : IsNet w O I Y) (a b : Int) (hn : NmWf (a, b)) (hf : Y.f (a, b) = none) :
    Calls Tryz.prog 21 #[.pointer (some ⟨Y.g, 0, none⟩), I64 a, I64 b] w fun e w' => e = .returned (.tuple #[.agg (letA letMZ), .bool false]) ∧ Nw w w' := by
  obtain ⟨D, hD⟩ : ∃ D, D = w.heap.size := ⟨_, rfl⟩
  obtain ⟨W0, hW0⟩ : ∃ W, W = w.alloc (.cells #[U8V 0, I64 0, I64 0, I64 0, I64 0, I64 0, I64 0, I64 0, .bool false, .slice none 0 0, I64 0, I64 0, .slice none 0 0, .slice none 0 0, .slice none 0 0, .slice none 0 0, I64 0, I64 0, I64 0, .slice none 0 0] 50) := ⟨_, rfl⟩
  have p0 : Nw w W0 := by rw [hW0]; exact (Fr.refl (fun _ => False) _).alloc _
  have y0 : Blk W0 D 50 #[U8V 0, I64 0, I64 0, I64 0, I64 0, I64 0, I64 0, I64 0, .bool false, .slice none 0 0, I64 0, I64 0, .slice none 0 0, .slice none 0 0, .slice none 0 0, .slice none 0 0, I64 0, I64 0, I64 0, .slice none 0 0] := by rw [hW0, hD]; exact Blk.new _ _ _
  have hN := h.nw p0
  have HD := Lib.hid hD
  have HW0 := Lib.hid hW0
  clear hD hW0
  have hw : Calls Tryz.prog 62 #[.pointer (some ⟨Y.g, 0, none⟩), .agg #[I64 a, I64 b]] W0 fun e w' => e = .returned (.slice none 0 0) ∧ Nw W0 w' := (netWaits_any W0 Y.g Y.m Y.s _ hN.blk hN.map (a, b) hn).mono fun e w' h => ⟨by rw [h.1, hf]; rfl, h.2⟩
  go_enter Tryz.func21, Tryz.ntmps21
  go_upto_region 1 with (fail)
  rw [← HD.out, ← HW0.out]
  go_upto_region 3 with (go_at_call 62; refine hw.mono ?_; rintro e w1 ⟨rfl, q1⟩)
  have y1 := y0.fr q1 (fun h => h)
  have th := Blk.there (l := [U8V 0, I64 0, I64 0, I64 0, I64 0, I64 0, I64 0, I64 0, .bool false, .slice none 0 0, I64 0, I64 0, .slice none 0 0, .slice none 0 0, .slice none 0 0, .slice none 0 0, I64 0, I64 0, I64 0, .slice none 0 0]) y1 0 20 (by show 0 + 20 ≤ 20; omega)
  have one := letA_one letMZ
  obtain ⟨W1, hW1⟩ : ∃ W, W = w1.setCells D 0 [U8V 0, I64 0, I64 0, I64 0, I64 0, I64 0, I64 0, I64 0, .bool false, .slice none 0 0, I64 0, I64 0, .slice none 0 0, .slice none 0 0, .slice none 0 0, .slice none 0 0, I64 0, I64 0, I64 0, .slice none 0 0] := ⟨_, rfl⟩
  have y2 : Blk W1 D 50 #[U8V 0, I64 0, I64 0, I64 0, I64 0, I64 0, I64 0, I64 0, .bool false, .slice none 0 0, I64 0, I64 0, .slice none 0 0, .slice none 0 0, .slice none 0 0, .slice none 0 0, I64 0, I64 0, I64 0, .slice none 0 0] := by rw [hW1]; exact Blk.setCells (l := [U8V 0, I64 0, I64 0, I64 0, I64 0, I64 0, I64 0, I64 0, .bool false, .slice none 0 0, I64 0, I64 0, .slice none 0 0, .slice none 0 0, .slice none 0 0, .slice none 0 0, I64 0, I64 0, I64 0, .slice none 0 0]) y1 0 [U8V 0, I64 0, I64 0, I64 0, I64 0, I64 0, I64 0, I64 0, .bool false, .slice none 0 0, I64 0, I64 0, .slice none 0 0, .slice none 0 0, .slice none 0 0, .slice none 0 0, I64 0, I64 0, I64 0, .slice none 0 0]
  have m1 : Fr (· = D) w1 W1 := by rw [hW1]; exact (Fr.refl (· = D) _).setCells _ _
  have Q1 : Nw w W1 := (p0.tr q1).new m1 (fun b hb => by have := HD.out; omega)
  have HW1 := Lib.hid hW1
  clear hW1 m1
  go_wp2_with (refine wpList_store_mid rfl 50 _ _ rfl D 0 #[U8V 0, I64 0, I64 0, I64 0, I64 0, I64 0, I64 0, I64 0, .bool false, .slice none 0 0, I64 0, I64 0, .slice none 0 0, .slice none 0 0, .slice none 0 0, .slice none 0 0, I64 0, I64 0, I64 0, .slice none 0 0] rfl rfl th (by kernel_rfl) one ?_; rw [← HW1.out])
  refine bodyPost_ret (v := .tuple #[.agg #[U8V 0, I64 0, I64 0, I64 0, I64 0, I64 0, I64 0, I64 0, .bool false, .slice none 0 0, I64 0, I64 0, .slice none 0 0, .slice none 0 0, .slice none 0 0, .slice none 0 0, I64 0, I64 0, I64 0, .slice none 0 0], .bool false]) ?_ rfl ?_
  · exact results_cell_tmp_row rfl _ _ D 50 _ (0, 0) _ _ rfl rfl y2 Tryz.underlying50 rfl (by kernel_rfl)
  exact ⟨rfl, Q1⟩
set_option maxRecDepth 100000 in
set_option maxHeartbeats 8000000 in
theorem netDeliver_some (w : World) (O I : Nat → Prop) (Y : NetM) (h : IsNet w O I Y) (a b : Int) (hn : NmWf (a, b)) (hs : Y.s < 1000000000) (s : Ls LetM) (hf : Y.f (a, b) = some s) :
    Calls Tryz.prog 21 #[.pointer (some ⟨Y.g, 0, none⟩), I64 a, I64 b] w fun e w' => ∃ x l, s.l = x :: l ∧ e = .returned (.tuple #[.agg (letA x), .bool true]) ∧ LetIn w' I x ∧ IsNet w' O I { Y with s := Y.s + 1, f := setF Y.f (a, b) (tailS s) } ∧ Fr O w w' := by
  obtain ⟨D, hD⟩ : ∃ D, D = w.heap.size := ⟨_, rfl⟩
  obtain ⟨W0, hW0⟩ : ∃ W, W = w.alloc (.cells #[U8V 0, I64 0, I64 0, I64 0, I64 0, I64 0, I64 0, I64 0, .bool false, .slice none 0 0, I64 0, I64 0, .slice none 0 0, .slice none 0 0, .slice none 0 0, .slice none 0 0, I64 0, I64 0, I64 0, .slice none 0 0] 50) := ⟨_, rfl⟩
  have p0 : Nw w W0 := by rw [hW0]; exact (Fr.refl (fun _ => False) _).alloc _
  have y0 : Blk W0 D 50 #[U8V 0, I64 0, I64 0, I64 0, I64 0, I64 0, I64 0, I64 0, .bool false, .slice none 0 0, I64 0, I64 0, .slice none 0 0, .slice none 0 0, .slice none 0 0, .slice none 0 0, I64 0, I64 0, I64 0, .slice none 0 0] := by rw [hW0, hD]; exact Blk.new _ _ _
  have hN := h.nw p0
  have HD := Lib.hid hD
  have HW0 := Lib.hid hW0
  clear hD hW0
  have hk := hN.link _ _ hf
  have h0 := hk.some_
  have hc0 := hk.own.cap_le
  obtain ⟨x, l, hxl⟩ : ∃ x l, s.l = x :: l := by
    cases hl : s.l with
    | nil => rw [hl] at h0; simp at h0
    | cons x l => exact ⟨x, l, rfl⟩
  have HXL := Lib.hid hxl
  clear hxl
  have hw : Calls Tryz.prog 62 #[.pointer (some ⟨Y.g, 0, none⟩), .agg #[I64 a, I64 b]] W0 fun e w' => e = .returned (.slice s.a s.l.length s.c) ∧ Nw W0 w' := (netWaits_any W0 Y.g Y.m Y.s _ hN.blk hN.map (a, b) hn).mono fun e w' h => ⟨by rw [h.1, hf]; rfl, h.2⟩
  have s1 : ∀ w, (Instr.slice 28 (.slice s.a s.l.length s.c) (some (.int .i64 1)) none none).run Tryz.prog w = .ok (.slice (cutA s.a s.c 1 20) (s.l.length - 1) (s.c - 1)) w := slice_l (P := Tryz.prog) 28 (by kernel_rfl) 20 (fun w => by kernel_rfl) s.a s.l.length s.c 1 (by omega)
  have hne0 : decide ((s.l.length : Int) = 0) = false := decide_eq_false (by omega)
  go_enter Tryz.func21, Tryz.ntmps21
  go_upto_region 1 with (fail)
  rw [← HD.out, ← HW0.out]
  go_upto_region 4 with (go_at_call 62; refine hw.mono ?_; rintro e w1 ⟨rfl, q1⟩)
  have N1 := hN.nw q1
  have y1 := y0.fr q1 (fun h => h)
  have g0 : w1.drew.cell? ⟨Y.g, 0, none⟩ = some (.map (some Y.m)) := by simpa using (N1.blk.drew).cell 0
  have hset := netSet_tail w1.drew Y.m Y.s _ (N1.map.fr ((Fr.refl (fun _ => False) w1).drew) (fun h => h)) (by unfold maxLen; omega) a b hn s h0
  refine wp_region_tail 9 (by kernel_rfl) (by kernel_rfl) ?_
  simp only [List.take_succ_cons, List.take_zero, List.drop_succ_cons, List.drop_zero]
  repeat still_step
  refine wpStill_nil ?_
  go_upto_region 5 with (go_at_call 50; refine hset.mono ?_; rintro e w2 ⟨rfl, hM2, f2⟩)
  have N1d := N1.nw ((Fr.refl (fun _ => False) w1).drew)
  have K1 := N1d.link _ _ hf
  have hIm : ∀ k, I k → ¬ k = Y.m := fun k hk e => N1d.dis _ N1d.om (e ▸ hk)
  have N2 := N1d.set (v := tailS s) (O' := O) (I' := I) hM2 f2 N1d.gm (fun n' t _ ht k hk => (N1d.link n' t ht).off_map N1d.map k hk) hIm (fun _ h => h) (fun _ h => h) N1d.dis (fun k hk => Nat.lt_of_lt_of_le (N1d.ol k hk) f2.size) (fun k hk => Nat.lt_of_lt_of_le (N1d.il k hk) f2.size) (fun t ht => by
    obtain ⟨h5, h6⟩ := tailS_in (K1.fr f2 (K1.off_map N1d.map) hIm) ht
    exact ⟨h5, fun n' t' hne ht' k h7 h8 => N1d.far (a, b) n' s t' hf ht' (fun e => hne e.symm) k (h6 k h7) h8⟩)
  have K2 := K1.fr f2 (K1.off_map N1d.map) hIm
  have hx : s.l[0] = x := by have := HXL.out; simp [this]
  obtain ⟨g2, o2, hA, _, hg2, hc⟩ := K2.own.sl.let_ h0
  rw [hx] at hc
  have y2 := (y1.drew).fr f2 (fun e : D = Y.m => by have := HD.out; have := h.ol _ h.om; omega)
  have th := Blk.there (l := [U8V 0, I64 0, I64 0, I64 0, I64 0, I64 0, I64 0, I64 0, .bool false, .slice none 0 0, I64 0, I64 0, .slice none 0 0, .slice none 0 0, .slice none 0 0, .slice none 0 0, I64 0, I64 0, I64 0, .slice none 0 0]) y2 0 20 (by show 0 + 20 ≤ 20; omega)
  have one := letA_one x
  obtain ⟨W1, hW1⟩ : ∃ W, W = w2.setCells D 0 [U8V x.kind, I64 x.group, I64 x.src, I64 x.dst, I64 x.term, I64 x.index, I64 x.logt, I64 x.commit, .bool x.ok, .slice x.ents.a x.ents.l.length x.ents.c, I64 x.base.index, I64 x.base.term, .slice x.base.cfg.v.a x.base.cfg.v.l.length x.base.cfg.v.c, .slice x.base.cfg.o.a x.base.cfg.o.l.length x.base.cfg.o.c, .slice x.base.cfg.l.a x.base.cfg.l.l.length x.base.cfg.l.c, .slice x.base.cfg.w.a x.base.cfg.w.l.length x.base.cfg.w.c, I64 x.size, I64 x.at_, I64 x.tag, .slice x.bytes.a x.bytes.l.length x.bytes.c] := ⟨_, rfl⟩
  have y3 : Blk W1 D 50 #[U8V x.kind, I64 x.group, I64 x.src, I64 x.dst, I64 x.term, I64 x.index, I64 x.logt, I64 x.commit, .bool x.ok, .slice x.ents.a x.ents.l.length x.ents.c, I64 x.base.index, I64 x.base.term, .slice x.base.cfg.v.a x.base.cfg.v.l.length x.base.cfg.v.c, .slice x.base.cfg.o.a x.base.cfg.o.l.length x.base.cfg.o.c, .slice x.base.cfg.l.a x.base.cfg.l.l.length x.base.cfg.l.c, .slice x.base.cfg.w.a x.base.cfg.w.l.length x.base.cfg.w.c, I64 x.size, I64 x.at_, I64 x.tag, .slice x.bytes.a x.bytes.l.length x.bytes.c] := by rw [hW1]; exact Blk.setCells (l := [U8V 0, I64 0, I64 0, I64 0, I64 0, I64 0, I64 0, I64 0, .bool false, .slice none 0 0, I64 0, I64 0, .slice none 0 0, .slice none 0 0, .slice none 0 0, .slice none 0 0, I64 0, I64 0, I64 0, .slice none 0 0]) y2 0 [U8V x.kind, I64 x.group, I64 x.src, I64 x.dst, I64 x.term, I64 x.index, I64 x.logt, I64 x.commit, .bool x.ok, .slice x.ents.a x.ents.l.length x.ents.c, I64 x.base.index, I64 x.base.term, .slice x.base.cfg.v.a x.base.cfg.v.l.length x.base.cfg.v.c, .slice x.base.cfg.o.a x.base.cfg.o.l.length x.base.cfg.o.c, .slice x.base.cfg.l.a x.base.cfg.l.l.length x.base.cfg.l.c, .slice x.base.cfg.w.a x.base.cfg.w.l.length x.base.cfg.w.c, I64 x.size, I64 x.at_, I64 x.tag, .slice x.bytes.a x.bytes.l.length x.bytes.c]
  have m1 : Fr (· = D) w2 W1 := by rw [hW1]; exact (Fr.refl (· = D) _).setCells _ _
  have hxi : LetIn w2 I x := K2.each x (by have := HXL.out; simp [this])
  have HW1 := Lib.hid hW1
  have hDO : ∀ k, O k → ¬ k = D := fun k hk e => by have := HD.out; have := h.ol _ hk; omega
  have hDI : ∀ k, I k → ¬ k = D := fun k hk e => by have := HD.out; have := h.il _ hk; omega
  have Q1 : Fr O w W1 := ((Nw.on (S := O) (p0.tr q1)).drew.trans f2 (fun b (hb : b = Y.m) => .inl (hb ▸ h.om))).trans m1 (fun b (hb : b = D) => .inr (by have := HD.out; omega))
  have N3 := N2.fr m1 hDO hDI
  have X3 := hxi.fr m1 hDI
  clear hW1 m1
  go_wp2_with (first | (refine wl_load_cells rfl 50 _ rfl g2 (o2 + 0 * 20) rfl _ _ hc Tryz.underlying50 rfl (by kernel_rfl) ?_) | (refine wpList_store_mid rfl 50 _ _ rfl D 0 #[U8V x.kind, I64 x.group, I64 x.src, I64 x.dst, I64 x.term, I64 x.index, I64 x.logt, I64 x.commit, .bool x.ok, .slice x.ents.a x.ents.l.length x.ents.c, I64 x.base.index, I64 x.base.term, .slice x.base.cfg.v.a x.base.cfg.v.l.length x.base.cfg.v.c, .slice x.base.cfg.o.a x.base.cfg.o.l.length x.base.cfg.o.c, .slice x.base.cfg.l.a x.base.cfg.l.l.length x.base.cfg.l.c, .slice x.base.cfg.w.a x.base.cfg.w.l.length x.base.cfg.w.c, I64 x.size, I64 x.at_, I64 x.tag, .slice x.bytes.a x.bytes.l.length x.bytes.c] rfl rfl th (by kernel_rfl) one ?_; rw [← HW1.out]))
  refine bodyPost_ret (v := .tuple #[.agg #[U8V x.kind, I64 x.group, I64 x.src, I64 x.dst, I64 x.term, I64 x.index, I64 x.logt, I64 x.commit, .bool x.ok, .slice x.ents.a x.ents.l.length x.ents.c, I64 x.base.index, I64 x.base.term, .slice x.base.cfg.v.a x.base.cfg.v.l.length x.base.cfg.v.c, .slice x.base.cfg.o.a x.base.cfg.o.l.length x.base.cfg.o.c, .slice x.base.cfg.l.a x.base.cfg.l.l.length x.base.cfg.l.c, .slice x.base.cfg.w.a x.base.cfg.w.l.length x.base.cfg.w.c, I64 x.size, I64 x.at_, I64 x.tag, .slice x.bytes.a x.bytes.l.length x.bytes.c], .bool true]) ?_ rfl ?_
  · exact results_cell_tmp_row rfl _ _ D 50 _ (0, 0) _ _ rfl rfl y3 Tryz.underlying50 rfl (by kernel_rfl)
  exact ⟨x, l, HXL.out, rfl, X3, N3, Q1⟩
end Go.Proofs.YtippdjaakcgeoaaGreat

namespace Go.Proofs.YtippdjaakcgeoaaGreat
open Go Go.RowKit
set_option linter.unusedVariables false
set_option linter.unusedSimpArgs false
set_option maxRecDepth 100000 in
set_option maxHeartbeats 4000000 in
theorem netLose_of (w : World) (g : Nat) (a b : Int) (d : Bool) (Pst : World → Prop) (hP : ∀ w1 w2, Pst w1 → Nw w1 w2 → Pst w2)
    (hd : Calls Tryz.prog 21 #[.pointer (some ⟨g, 0, none⟩), I64 a, I64 b] w fun e w' => ∃ x, e = .returned (.tuple #[.agg (letA x), .bool d]) ∧ Pst w') :
    Calls Tryz.prog 24 #[.pointer (some ⟨g, 0, none⟩), I64 a, I64 b] w fun e w' => e = .returned (.bool d) ∧ Pst w' := by
  have HP := Lib.hid hP
  clear hP
  go_enter Tryz.func24, Tryz.ntmps24
  go_wp2_with (first | (go_at_call 21; refine hd.mono ?_; rintro e w1 ⟨x, rfl, p1⟩; obtain ⟨D, hD⟩ : ∃ D, D = w1.heap.size := ⟨_, rfl⟩; obtain ⟨V0, hV0⟩ : ∃ V, V = w1.alloc (.cells #[U8V 0, I64 0, I64 0, I64 0, I64 0, I64 0, I64 0, I64 0, .bool false, .slice none 0 0, I64 0, I64 0, .slice none 0 0, .slice none 0 0, .slice none 0 0, .slice none 0 0, I64 0, I64 0, I64 0, .slice none 0 0] 50) := ⟨_, rfl⟩; have q0 : Nw w1 V0 := (by rw [hV0]; exact (Fr.refl (fun _ => False) _).alloc _); have y0 : Blk V0 D 50 #[U8V 0, I64 0, I64 0, I64 0, I64 0, I64 0, I64 0, I64 0, .bool false, .slice none 0 0, I64 0, I64 0, .slice none 0 0, .slice none 0 0, .slice none 0 0, .slice none 0 0, I64 0, I64 0, I64 0, .slice none 0 0] := (by rw [hV0, hD]; exact Blk.new _ _ _); have th := Blk.there (l := [U8V 0, I64 0, I64 0, I64 0, I64 0, I64 0, I64 0, I64 0, .bool false, .slice none 0 0, I64 0, I64 0, .slice none 0 0, .slice none 0 0, .slice none 0 0, .slice none 0 0, I64 0, I64 0, I64 0, .slice none 0 0]) y0 0 20 (by show 0 + 20 ≤ 20; omega); have one := letA_one x; obtain ⟨V1, hV1⟩ : ∃ V, V = V0.setCells D 0 [U8V x.kind, I64 x.group, I64 x.src, I64 x.dst, I64 x.term, I64 x.index, I64 x.logt, I64 x.commit, .bool x.ok, .slice x.ents.a x.ents.l.length x.ents.c, I64 x.base.index, I64 x.base.term, .slice x.base.cfg.v.a x.base.cfg.v.l.length x.base.cfg.v.c, .slice x.base.cfg.o.a x.base.cfg.o.l.length x.base.cfg.o.c, .slice x.base.cfg.l.a x.base.cfg.l.l.length x.base.cfg.l.c, .slice x.base.cfg.w.a x.base.cfg.w.l.length x.base.cfg.w.c, I64 x.size, I64 x.at_, I64 x.tag, .slice x.bytes.a x.bytes.l.length x.bytes.c] := ⟨_, rfl⟩; have m1 : Fr (· = D) V0 V1 := (by rw [hV1]; exact (Fr.refl (· = D) _).setCells _ _); have q1 : Nw w1 V1 := q0.new m1 (fun b hb => by omega); have HD := Lib.hid hD; have HV0 := Lib.hid hV0; have HV1 := Lib.hid hV1; clear hD hV0 hV1 m1 q0 y0) | (rw [← HV0.out, ← HD.out]; refine wpList_store_mid rfl 50 _ _ rfl D 0 #[U8V x.kind, I64 x.group, I64 x.src, I64 x.dst, I64 x.term, I64 x.index, I64 x.logt, I64 x.commit, .bool x.ok, .slice x.ents.a x.ents.l.length x.ents.c, I64 x.base.index, I64 x.base.term, .slice x.base.cfg.v.a x.base.cfg.v.l.length x.base.cfg.v.c, .slice x.base.cfg.o.a x.base.cfg.o.l.length x.base.cfg.o.c, .slice x.base.cfg.l.a x.base.cfg.l.l.length x.base.cfg.l.c, .slice x.base.cfg.w.a x.base.cfg.w.l.length x.base.cfg.w.c, I64 x.size, I64 x.at_, I64 x.tag, .slice x.bytes.a x.bytes.l.length x.bytes.c] rfl rfl th (by kernel_rfl) one ?_; rw [← HV1.out]))
  go_ret
  exact ⟨rfl, HP.out _ _ p1 q1⟩
end Go.Proofs.YtippdjaakcgeoaaGreat

namespace Go.Proofs.YtippdjaakcgeoaaGreat
open Go Go.RowKit
set_option linter.unusedVariables false
set_option linter.unusedSimpArgs false

/-- The blocks of a colour. -/
def CB (w : World) (col : Nat → Nat) (c : Nat) (k : Nat) : Prop := col k = c ∧ k < w.heap.size
/-- Only blocks of colour d were turned, and new ones made. -/
structure Ext (w w' : World) (col col' : Nat → Nat) (d : Nat) : Prop where
  fr : Fr (CB w col d) w w'
  ext : ∀ k, k < w.heap.size → col' k = col k
  cln : (∀ k, w.heap.size ≤ k → col k = 0) → ∀ k, w'.heap.size ≤ k → col' k = 0
/-- A net whose own blocks have colour c. -/
def NetC (w : World) (col : Nat → Nat) (c g N : Nat) (p : Nm → List LetF) : Prop := ∃ Y, IsNet w (CB w col c) (CB w col 0) Y ∧ Y.g = g ∧ Y.p = p ∧ Y.s ≤ N
/-- A row of letters whose block has colour c. -/
structure LstC (w : World) (col : Nat → Nat) (c : Nat) (A : Option Addr) (cap : Nat) (l : List LetM) : Prop where
  own : Own w 50 20 A l.length cap (letsC l)
  base : ∀ k, inA A k → col k = c
  each : ∀ x ∈ l, LetIn w (CB w col 0) x
  sz : ∀ x ∈ l, LetSz x
section
variable {w w' w'' : World} {col col' col'' : Nat → Nat} {c d g N M : Nat} {p : Nm → List LetF} {A : Option Addr} {cap : Nat} {l : List LetM} {O O' I I' : Nat → Prop} {Y Y' : NetM}
theorem Ext.nw (h : Nw w w') (col : Nat → Nat) (d : Nat) : Ext w w' col col d := ⟨Nw.on h, fun _ _ => rfl, fun h0 k hk => h0 k (Nat.le_trans h.size hk)⟩
theorem Ext.tr (h : Ext w w' col col' d) (k : Ext w' w'' col' col'' d) : Ext w w'' col col'' d :=
  ⟨h.fr.trans k.fr fun b hb => (Nat.lt_or_ge b w.heap.size).elim (fun h1 => .inl ⟨(h.ext b h1).symm.trans hb.1, h1⟩) .inr, fun j hj => (k.ext j (Nat.lt_of_lt_of_le hj h.fr.size)).trans (h.ext j hj), fun h0 => k.cln (h.cln h0)⟩
theorem Ext.size (h : Ext w w' col col' d) : w.heap.size ≤ w'.heap.size := h.fr.size
/-- Seen from a world in which no block had the colour. -/
theorem Ext.nw_of (h : Ext w w' col col' d) {w0 : World} (q : Nw w0 w) (h0 : ∀ k, k < w0.heap.size → col k ≠ d) : Nw w0 w' :=
  q.new h.fr fun b hb => (Nat.lt_or_ge b w0.heap.size).elim (fun h1 => (h0 b h1 hb.1).elim) id
theorem CB.ext (h : Ext w w' col col' d) {k : Nat} (hk : CB w col c k) : CB w' col' c k := ⟨(h.ext k hk.2).trans hk.1, Nat.lt_of_lt_of_le hk.2 h.size⟩
theorem CB.off (hcd : c ≠ d) {k : Nat} (hk : CB w col c k) : ¬ CB w col d k := fun h => hcd (hk.1.symm.trans h.1)
theorem let_ext {x : LetM} (hx : LetIn w (CB w col 0) x) (h : Ext w w' col col' d) (hd : d ≠ 0) : LetIn w' (CB w' col' 0) x :=
  (hx.fr h.fr (fun k hk => hk.off (fun e => hd e.symm))).mono fun k hk _ => hk.ext h
theorem IsNet.grow (h : IsNet w O I Y) (hO : ∀ k, O k → O' k) (hI : ∀ k, I k → I' k) (hd : ∀ k, O' k → ¬ I' k) (hOl : ∀ k, O' k → k < w.heap.size) (hIl : ∀ k, I' k → k < w.heap.size) : IsNet w O' I' Y :=
  ⟨h.blk, h.map, fun n s hs => (h.link n s hs).mono hO hI, h.far, hO _ h.og, hO _ h.om, hd, hOl, hIl⟩
theorem IsNet.cb (h : IsNet w O I Y) (hc : c ≠ 0) (hO : ∀ k, O k → col k = c) (hI : ∀ k, I k → col k = 0) : IsNet w (CB w col c) (CB w col 0) Y :=
  h.grow (fun k hk => ⟨hO k hk, h.ol k hk⟩) (fun k hk => ⟨hI k hk, h.il k hk⟩) (fun k h1 h2 => hc (h1.1.symm.trans h2.1)) (fun k hk => hk.2) (fun k hk => hk.2)
theorem NetC.ext (h : NetC w col c g N p) (e : Ext w w' col col' d) (hc : c ≠ 0) (hcd : c ≠ d) (hd : d ≠ 0) : NetC w' col' c g N p := by
  obtain ⟨Y, h1, h2⟩ := h
  exact ⟨Y, (h1.fr e.fr (fun k hk => hk.off hcd) (fun k hk => hk.off (fun e => hd e.symm))).cb hc (fun k hk => (e.ext k hk.2).trans hk.1) (fun k hk => (e.ext k hk.2).trans hk.1), h2⟩
theorem NetC.nw (h : NetC w col c g N p) (q : Nw w w') (hc : c ≠ 0) : NetC w' col c g N p := by
  obtain ⟨Y, h1, h2⟩ := h
  exact ⟨Y, (h1.nw q).cb hc (fun k hk => hk.1) (fun k hk => hk.1), h2⟩
theorem NetC.more (h : NetC w col c g N p) (hN : N ≤ M) : NetC w col c g M p := by
  obtain ⟨Y, h1, h2, h3, h4⟩ := h
  exact ⟨Y, h1, h2, h3, Nat.le_trans h4 hN⟩
/-- New blocks coloured. -/
noncomputable def colN (w : World) (col : Nat → Nat) (c : Nat) (O : Nat → Prop) : Nat → Nat := fun k => if k < w.heap.size then col k else @ite _ (O k) (Classical.propDecidable _) c 0
theorem colN_old {k : Nat} (h : k < w.heap.size) : colN w col c O k = col k := if_pos h
theorem colN_in {k : Nat} (h : w.heap.size ≤ k) (ho : O k) : colN w col c O k = c := by
  unfold colN
  rw [if_neg (by omega), if_pos ho]
theorem colN_out {k : Nat} (h : w.heap.size ≤ k) (ho : ¬ O k) : colN w col c O k = 0 := by
  unfold colN
  rw [if_neg (by omega), if_neg ho]
/-- What a call on a net leaves, by colours. -/
theorem net_step (hc : c ≠ 0) (h' : IsNet w' O' I' Y') (hf : Fr (CB w col c) w w') (hO : ∀ k, O' k → CB w col c k ∨ w.heap.size ≤ k) (hI : ∀ k, I' k → CB w col 0 k ∨ w.heap.size ≤ k) :
    ∃ col', Ext w w' col col' c ∧ IsNet w' (CB w' col' c) (CB w' col' 0) Y' ∧ ∀ k, I' k → CB w' col' 0 k := by
  have hI2 : ∀ k, I' k → colN w col c O' k = 0 := fun k hk => (hI k hk).elim (fun h => (colN_old h.2).trans h.1) (fun h => colN_out h (fun ho => h'.dis k ho hk))
  refine ⟨colN w col c O', ⟨hf, fun k hk => colN_old hk, fun _ k hk => colN_out (Nat.le_trans hf.size hk) (fun ho => by have := h'.ol k ho; omega)⟩, h'.cb hc (fun k hk => (hO k hk).elim (fun h => (colN_old h.2).trans h.1) (fun h => colN_in h hk)) hI2, fun k hk => ⟨hI2 k hk, h'.il k hk⟩⟩
end
/-! What calls on nets tell, by colours. -/
section
variable {w : World} {col : Nat → Nat} {c g N : Nat} {p : Nm → List LetF}
theorem nNew (w : World) (col : Nat → Nat) (c : Nat) (hc : c ≠ 0) :
    Calls Tryz.prog 10 #[] w fun e w' => ∃ g col', e = .returned (.pointer (some ⟨g, 0, none⟩)) ∧ Ext w w' col col' c ∧ NetC w' col' c g 0 (fun _ => []) ∧ Nw w w' :=
  (netNew_any w).mono fun e w' h => by
    obtain ⟨rfl, hb, hm, q⟩ := h
    have h1 := hb.lt
    have h2 := hm.lt
    have hN : IsNet w' (fun k => k = w.heap.size + 1 ∨ k = w.heap.size) (fun _ => False) ⟨w.heap.size + 1, w.heap.size, 0, fun _ => none⟩ :=
      ⟨hb, hm, (by intro n s hs; cases hs), (by intro n n' s s' hs; cases hs), .inl rfl, .inr rfl, fun _ _ h => h, (by rintro k (rfl | rfl) <;> assumption), fun _ h => h.elim⟩
    obtain ⟨col', h3, h4, _⟩ := net_step (col := col) hc hN (Nw.on q) (by rintro k (rfl | rfl) <;> exact .inr (by omega)) (fun _ h => h.elim)
    exact ⟨_, col', rfl, h3, ⟨_, h4, rfl, rfl, Nat.le_refl _⟩, q⟩
theorem nSend (hc : c ≠ 0) (h : NetC w col c g N p) (hN : N < 900000000) (F : Nat → Prop) (A : Option Addr) (cap : Nat) (xs : List LetM) (hsl : Sl w F A (letsC xs)) (he : ∀ x ∈ xs, LetIn w F x) (hz : ∀ x ∈ xs, LetSz x) (hsz : xs.length ≤ 10000) (hF : ∀ k, F k → col k ≠ c) :
    Calls Tryz.prog 19 #[.pointer (some ⟨g, 0, none⟩), .slice A xs.length cap] w fun e w' => e = .returned (I64 ((sendP p (xs.map LetM.x)).2 : Nat)) ∧ ∃ col', Ext w w' col col' c ∧ NetC w' col' c g (N + xs.length) (sendP p (xs.map LetM.x)).1 := by
  obtain ⟨Y, h1, rfl, rfl, h4⟩ := h
  refine (netSend_any w _ _ F Y h1 A cap xs hsl he hz hsz (fun k hk hh => hF k hk hh.1) (by omega)).mono fun e w' hh => ?_
  obtain ⟨rfl, O', I', Y', i1, i2, _, i4, i5, i6, i7, i8⟩ := hh
  obtain ⟨col', j1, j2, _⟩ := net_step hc i1 i6 i7 i8
  exact ⟨rfl, col', j1, ⟨Y', j2, i2, i4, by omega⟩⟩
theorem nDeliver0 (hc : c ≠ 0) (h : NetC w col c g N p) (a b : Int) (hn : NmWf (a, b)) (hp : p (a, b) = []) :
    Calls Tryz.prog 21 #[.pointer (some ⟨g, 0, none⟩), I64 a, I64 b] w fun e w' => e = .returned (.tuple #[.agg (letA letMZ), .bool false]) ∧ Nw w w' := by
  obtain ⟨Y, h1, rfl, rfl, h4⟩ := h
  refine netDeliver_none w _ _ Y h1 a b hn ?_
  cases hf : Y.f (a, b) with
  | none => rfl
  | some s =>
    have h5 := (h1.link _ s hf).some_
    rw [NetM.p_some hf] at hp
    rw [List.map_eq_nil_iff.1 hp] at h5
    exact absurd h5 (Nat.lt_irrefl 0)
theorem nDeliver1 (hc : c ≠ 0) (h : NetC w col c g N p) (hN : N < 900000000) (a b : Int) (hn : NmWf (a, b)) {y : LetF} {l : List LetF} (hp : p (a, b) = y :: l) :
    Calls Tryz.prog 21 #[.pointer (some ⟨g, 0, none⟩), I64 a, I64 b] w fun e w' => ∃ x : LetM, e = .returned (.tuple #[.agg (letA x), .bool true]) ∧ x.x = y ∧ LetIn w' (CB w' col 0) x ∧ LetSz x ∧ Ext w w' col col c ∧ NetC w' col c g (N + 1) (setP p (a, b) l) := by
  obtain ⟨Y, h1, rfl, rfl, h4⟩ := h
  cases hf : Y.f (a, b) with
  | none => rw [NetM.p_none hf] at hp; cases hp
  | some s =>
    have K := h1.link _ s hf
    refine (netDeliver_some w _ _ Y h1 a b hn (by omega) s hf).mono fun e w' hh => ?_
    obtain ⟨x, r, hs, rfl, i1, i2, i3⟩ := hh
    have hs' := i3.size
    rw [NetM.p_some hf, hs, List.map_cons] at hp
    injection hp with e1 e2
    refine ⟨x, rfl, e1, i1.mono (fun k hk _ => ⟨hk.1, by have := hk.2; omega⟩), K.sz x (by rw [hs]; exact List.mem_cons_self), ⟨i3, fun _ _ => rfl, fun h0 k hk => h0 k (Nat.le_trans i3.size hk)⟩, ⟨_, i2.cb hc (fun k hk => hk.1) (fun k hk => hk.1), rfl, ?_, by show Y.s + 1 ≤ N + 1; omega⟩⟩
    funext m
    unfold setP
    by_cases e : m = (a, b)
    · subst e
      rw [if_pos rfl]
      have hx := tailS_x s K.some_
      rw [hs, List.map_cons, List.drop_one, List.tail_cons, e2] at hx
      rw [← hx]
      unfold NetM.p
      simp [setF]
    · rw [if_neg e]
      unfold NetM.p
      simp [setF, e]
theorem nWaiting (hc : c ≠ 0) (h : NetC w col c g N p) (a b : Int) (hn : NmWf (a, b)) :
    Calls Tryz.prog 17 #[.pointer (some ⟨g, 0, none⟩), I64 a, I64 b] w fun e w' => ∃ A cap ys, e = .returned (.slice A ys.length cap) ∧ ys.map LetM.x = p (a, b) ∧ Own w' 50 20 A ys.length cap (letsC ys) ∧ LetsHd w' (fun k => Since w k ∧ ¬ inA A k) ys ∧ (∀ y ∈ ys, LetSz y) ∧ Nw w w' ∧ ∀ k, inA A k → w.heap.size ≤ k := by
  obtain ⟨Y, h1, rfl, rfl, h4⟩ := h
  refine (netWaiting_any w _ _ Y h1 a b hn).mono fun e w' hh => ?_
  obtain ⟨A, cap, ys, i1, i2, i3, i4, i5, i6⟩ := hh
  refine ⟨A, cap, ys, i1, i2, i3, i4, fun y hy => ?_, i5, i6⟩
  cases hf : Y.f (a, b) with
  | none =>
    rw [NetM.p_none hf] at i2
    rw [List.map_eq_nil_iff.1 i2] at hy
    cases hy
  | some s =>
    rw [NetM.p_some hf] at i2
    exact szs_eq i2 (h1.link _ s hf).sz y hy
theorem nLose0 (hc : c ≠ 0) (h : NetC w col c g N p) (a b : Int) (hn : NmWf (a, b)) (hp : p (a, b) = []) :
    Calls Tryz.prog 24 #[.pointer (some ⟨g, 0, none⟩), I64 a, I64 b] w fun e w' => e = .returned (.bool false) ∧ Nw w w' :=
  netLose_of w g a b false (fun w' => Nw w w') (fun _ _ h q => h.tr q) ((nDeliver0 hc h a b hn hp).mono fun e w' h => ⟨letMZ, h.1, h.2⟩)
theorem nLose1 (hc : c ≠ 0) (h : NetC w col c g N p) (hN : N < 900000000) (a b : Int) (hn : NmWf (a, b)) {y : LetF} {l : List LetF} (hp : p (a, b) = y :: l) :
    Calls Tryz.prog 24 #[.pointer (some ⟨g, 0, none⟩), I64 a, I64 b] w fun e w' => e = .returned (.bool true) ∧ Ext w w' col col c ∧ NetC w' col c g (N + 1) (setP p (a, b) l) :=
  netLose_of w g a b true (fun w' => Ext w w' col col c ∧ NetC w' col c g (N + 1) (setP p (a, b) l)) (fun _ _ h q => ⟨h.1.tr (Ext.nw q _ _), h.2.nw q hc⟩) ((nDeliver1 hc h hN a b hn hp).mono fun e w' hh => by
    obtain ⟨x, h1, _, _, _, h5, h6⟩ := hh
    exact ⟨x, h1, h5, h6⟩)
theorem nTwice (hc : c ≠ 0) (h : NetC w col c g N p) (hN : N < 900000000) (a b : Int) (hn : NmWf (a, b)) :
    Calls Tryz.prog 25 #[.pointer (some ⟨g, 0, none⟩), I64 a, I64 b] w fun e w' => e = .returned (.bool (twP p (a, b)).2) ∧ ∃ col', Ext w w' col col' c ∧ NetC w' col' c g (N + 1) (twP p (a, b)).1 := by
  obtain ⟨Y, h1, rfl, rfl, h4⟩ := h
  refine (netTwice_any w _ _ Y h1 (by omega) a b hn).mono fun e w' hh => ?_
  obtain ⟨rfl, O', I', Y', i1, i2, _, i4, i5, i6, i7, i8⟩ := hh
  obtain ⟨col', j1, j2, _⟩ := net_step hc i1 i6 i7 i8
  exact ⟨rfl, col', j1, ⟨Y', j2, i2, i4, by omega⟩⟩
theorem nForward (hc : c ≠ 0) (h : NetC w col c g N p) (hN : N < 900000000) (a b : Int) (hn : NmWf (a, b)) :
    Calls Tryz.prog 26 #[.pointer (some ⟨g, 0, none⟩), I64 a, I64 b] w fun e w' => e = .returned (.bool (fwP p (a, b)).2) ∧ ∃ col', Ext w w' col col' c ∧ NetC w' col' c g (N + 1) (fwP p (a, b)).1 := by
  obtain ⟨Y, h1, rfl, rfl, h4⟩ := h
  refine (netForward_any w _ _ Y h1 (by omega) a b hn).mono fun e w' hh => ?_
  obtain ⟨rfl, O', Y', i1, i2, _, i4, i5, i6, i7⟩ := hh
  obtain ⟨col', j1, j2, _⟩ := net_step hc i1 i6 i7 (fun k hk => .inl hk)
  exact ⟨rfl, col', j1, ⟨Y', j2, i2, i4, by omega⟩⟩
theorem nTake (hc : c ≠ 0) (h : NetC w col c g N p) (b : Int) (hb : -9223372036854775808 ≤ b ∧ b ≤ 9223372036854775807) (ct : Nat) (hct : ct ≠ 0) (hcc : c ≠ ct) :
    Calls Tryz.prog 23 #[.pointer (some ⟨g, 0, none⟩), I64 b] w fun e w' => ∃ A cap ys, e = .returned (.slice A ys.length cap) ∧ ys.length ≤ 200 ∧ ys.map LetM.x = (takeP p b 5).1 ∧ ∃ col', Ext w w' col col' c ∧ NetC w' col' c g N (takeP p b 5).2 ∧ LstC w' col' ct A cap ys := by
  obtain ⟨Y, h1, rfl, rfl, h4⟩ := h
  refine (netTake_any w _ _ Y h1 b hb).mono fun e w' hh => ?_
  obtain ⟨A, cap, ys, Y', rfl, i0, i1, i2, i3, i4, i5, i6, _, i7, i8, i9⟩ := hh
  have hx : Ext w w' col (colN w col ct (inA A)) c := ⟨i9, fun k hk => colN_old hk, fun _ k hk => colN_out (Nat.le_trans i9.size hk) (fun h => by have := i2.lt k h; omega)⟩
  refine ⟨A, cap, ys, rfl, i0, i1, colN w col ct (inA A), hx, ⟨Y', i5.cb hc (fun k hk => (colN_old hk.2).trans hk.1) (fun k hk => (colN_old hk.2).trans hk.1), i6, i7, by omega⟩, ⟨i2, fun k hk => colN_in (i3 k hk) hk, fun x hx2 => (i4 x hx2).1.mono fun k hk _ => hk.ext hx, fun x hx => (i4 x hx).2⟩⟩
theorem nCopy (hc : c ≠ 0) (h : NetC w col c g N p) (hN : N < 900000000) (c' : Nat) (hc' : c' ≠ 0) :
    Calls Tryz.prog 12 #[.pointer (some ⟨g, 0, none⟩)] w fun e w' => ∃ g' col', e = .returned (.pointer (some ⟨g', 0, none⟩)) ∧ Ext w w' col col' c' ∧ NetC w' col' c' g' N p ∧ Nw w w' := by
  obtain ⟨Y, h1, rfl, rfl, h4⟩ := h
  refine (netCopy_any w _ _ Y h1 (by omega)).mono fun e w' hh => ?_
  obtain ⟨O', I', Y', rfl, i1, i2, i3, i4, i5, i6⟩ := hh
  obtain ⟨col', j1, j2, _⟩ := net_step (col := col) hc' i1 (Nw.on i4) (fun k hk => .inr (i5 k hk)) (fun k hk => .inr (i6 k hk))
  exact ⟨Y'.g, col', rfl, j1, ⟨Y', j2, rfl, funext i2, by omega⟩, i4⟩
theorem nMany (hc : c ≠ 0) (h : NetC w col c g N p) (L : List LetF) (hL : RelN p L) (hsz : L.length ≤ 1000000000) :
    Calls Tryz.prog 22 #[.pointer (some ⟨g, 0, none⟩)] w fun e w' => e = .returned (I64 (L.length : Nat)) ∧ Nw w w' := by
  obtain ⟨Y, h1, rfl, rfl, h4⟩ := h
  exact netMany_any w _ _ Y h1 L hL hsz
end
end Go.Proofs.YtippdjaakcgeoaaGreat

namespace Go.Proofs.YtippdjaakcgeoaaGreat
open Go Go.RowKit

/-- Values put into an array, one behind the other. -/
theorem fold_set (v : List Value) : ∀ (j off : Nat) (cs : Array Value) (i : Nat), ((v.zipIdx j).foldl (fun (cs : Array Value) (p : Value × Nat) => cs.setIfInBounds (off + p.2) p.1) cs)[i]? =
    if off + j ≤ i ∧ i < off + j + v.length ∧ i < cs.size then v[i - (off + j)]? else cs[i]? := by
  induction v with
  | nil =>
    intro j off cs i
    rw [if_neg (by simp; omega)]
    rfl
  | cons c v ih =>
    intro j off cs i
    rw [List.zipIdx_cons, List.foldl_cons, ih (j + 1) off]
    simp only [List.length_cons, Array.size_setIfInBounds]
    rcases Nat.lt_trichotomy i (off + j) with h | h | h
    · rw [if_neg (by omega), if_neg (by omega), Array.getElem?_setIfInBounds_ne (by omega)]
    · subst h
      by_cases hs : off + j < cs.size
      · rw [if_neg (by omega), if_pos (by omega), Array.getElem?_setIfInBounds_self_of_lt hs, Nat.sub_self]
        rfl
      · rw [if_neg (by omega), if_neg (by omega), Array.getElem?_eq_none (by simp; omega), Array.getElem?_eq_none (by omega)]
    · by_cases hs : off + (j + 1) ≤ i ∧ i < off + (j + 1) + v.length ∧ i < cs.size
      · rw [if_pos hs, if_pos (by omega), show i - (off + j) = (i - (off + (j + 1))) + 1 by omega]
        rfl
      · rw [if_neg hs, if_neg (by omega), Array.getElem?_setIfInBounds_ne (by omega)]
theorem fill_rows (C : Nat) : ∀ (vs : List (List Value)) (k : Nat) (cs : Array Value), (∀ v ∈ vs, v.length = C) → cs.size = (k + vs.length) * C →
    Instr.fill (fun i => some (i * C, C)) cs ((vs.zipIdx k).map fun p => (p.2, Value.agg p.1.toArray)) = some (cs.toList.take (k * C) ++ vs.flatten).toArray := by
  intro vs
  induction vs with
  | nil =>
    intro k cs _ hs
    show some cs = _
    simp at hs
    rw [List.take_of_length_le (by simp [hs])]
    simp
  | cons v vs ih =>
    intro k cs hv hs
    have hvl := hv v (by simp)
    simp only [List.length_cons] at hs
    rw [List.zipIdx_cons, List.map_cons]
    unfold Instr.fill
    simp only
    have e1 : (Value.agg v.toArray).cells = v.toArray := rfl
    have hb : k * C + C ≤ cs.size := by
      rw [hs, ← Nat.succ_mul]
      exact Nat.mul_le_mul_right _ (by omega)
    rw [e1, if_neg (by simp [hvl]; omega)]
    have e2 : v.toArray.zipIdx.foldl (fun cs x => cs.setIfInBounds (k * C + x.2) x.1) cs = (v.zipIdx 0).foldl (fun (cs : Array Value) (p : Value × Nat) => cs.setIfInBounds (k * C + p.2) p.1) cs := by simp
    have e3 : ((v.zipIdx 0).foldl (fun (cs : Array Value) (p : Value × Nat) => cs.setIfInBounds (k * C + p.2) p.1) cs).size = cs.size := by
      have hg : ∀ (l : List (Value × Nat)) (c : Array Value), (l.foldl (fun (cs : Array Value) (p : Value × Nat) => cs.setIfInBounds (k * C + p.2) p.1) c).size = c.size := fun l => by
        induction l with
        | nil => intro c; rfl
        | cons x l ih => intro c; rw [List.foldl_cons, ih]; simp
      exact hg _ _
    have e4 := ih (k + 1) ((v.zipIdx 0).foldl (fun (cs : Array Value) (p : Value × Nat) => cs.setIfInBounds (k * C + p.2) p.1) cs) (fun x hx => hv x (by simp [hx])) (by rw [e3, hs]; congr 1; omega)
    refine Eq.trans ?_ (e4.trans ?_)
    · rw [← e2]
    · congr 2
      rw [List.flatten_cons, ← List.append_assoc]
      congr 1
      refine List.ext_getElem? fun i => ?_
      rw [List.getElem?_take, List.getElem?_append, List.getElem?_take]
      have e5 : ((v.zipIdx 0).foldl (fun (cs : Array Value) (p : Value × Nat) => cs.setIfInBounds (k * C + p.2) p.1) cs).toList[i]? = if k * C + 0 ≤ i ∧ i < k * C + 0 + v.length ∧ i < cs.size then v[i - (k * C + 0)]? else cs[i]? := by
        rw [Array.getElem?_toList]
        exact fold_set v 0 (k * C) cs i
      rw [e5, hvl]
      have hlt : (List.take (k * C) cs.toList).length = k * C := by simp; omega
      rw [hlt, Nat.succ_mul]
      simp only [Nat.add_zero, Array.getElem?_toList]
      by_cases h1 : i < k * C
      · rw [if_pos (by omega), if_neg (by omega), if_pos h1, if_pos h1]
      · by_cases h2 : i < k * C + C
        · rw [if_pos h2, if_pos (by omega), if_neg h1]
        · rw [if_neg h2, if_neg h1, List.getElem?_eq_none (by omega)]
theorem run_build {P : Program} (w : World) (t E : TypeId) (C : Nat) (vs : List (List Value)) (z : Value) (ht : P.underlying t = some (.slice E)) (hinfo : (P.info? E).map (fun i => (i.zero, i.size)) = some (some z, C))
    (hn0 : 0 < vs.length) (hC : 0 < C) (hl : ∀ v ∈ vs, v.length = C) (hsz : vs.length * C ≤ 16777216) :
    (Instr.buildSlice t vs.length ((vs.zipIdx 0).map fun p => (p.2, Value.agg p.1.toArray)).toArray).run P w = .ok (.slice (some ⟨w.heap.size, 0, none⟩) vs.length vs.length) (w.alloc (.cells vs.flatten.toArray E)) := by
  have hne : ¬ vs.length * C = 0 := Nat.ne_of_gt (Nat.mul_pos hn0 hC)
  have hle : ¬ vs.length * C > 2 ^ 24 := by show ¬ vs.length * C > 16777216; omega
  cases hi : P.info? E with
  | none => rw [hi] at hinfo; cases hinfo
  | some i =>
    rw [hi] at hinfo
    simp only [Option.map_some, Option.some.injEq, Prod.mk.injEq] at hinfo
    obtain ⟨hz, hs⟩ := hinfo
    have hf := fill_rows C vs 0 ((Array.range (vs.length * C)).map fun k => z.cells[k % z.cells.size]!) hl (by simp)
    rw [Nat.zero_mul, List.take_zero, List.nil_append] at hf
    simp [Instr.buildSlice, run_underlying ht, sizeOf, typeInfo, hi, hs, hle, hne, zeroValue, hz, hf, newRow]
section
variable {P : Program} {w : World} {ops : Array Oper} {rest : List Oper} {o : Oper} {a : Act} {Q : Exit → Act → World → Prop}
/-- The walk over a slice written out. -/
theorem wl_build (hgd : o.guard = none) {E : TypeId} (t : TypeId) (n : Nat) (ps : List (Nat × Operand)) (C : Nat) (vs : List (List Value)) (z : Value) (ho : o.op = .buildSlice t n ps.toArray) (ht : P.underlying t = some (.slice E)) (hinfo : (P.info? E).map (fun i => (i.zero, i.size)) = some (some z, C))
    (hn : vs.length = n) (hn0 : 0 < n) (hC : 0 < C) (hl : ∀ v ∈ vs, v.length = C) (hsz : n * C ≤ 16777216)
    (hp : (ps.map fun (i, x) => (i, a.eval x)) = (vs.zipIdx 0).map fun p => (p.2, Value.agg p.1.toArray))
    (h : ∀ g w', g = w.heap.size → w' = w.alloc (.cells vs.flatten.toArray E) → wpList P ops Q rest (a.put o.dst (.slice (some ⟨g, 0, none⟩) n n)) w') : wpList P ops Q (o :: rest) a w := by
  refine wpList_plain hgd fun K hK => ?_
  subst hn
  unfold Oper.wp execOp
  simp only [ho, List.map_toArray, hp]
  rw [Sem.run_bind, run_build w t E C vs z ht hinfo hn0 hC hl hsz]
  exact hK _ _ (h _ _ rfl rfl)
/-- The same, behind a guard that says yes. -/
theorem wl_buildw (hw : Region.wanted o (yielded ops a.tmps) = true) {E : TypeId} (t : TypeId) (n : Nat) (ps : List (Nat × Operand)) (C : Nat) (vs : List (List Value)) (z : Value) (ho : o.op = .buildSlice t n ps.toArray) (ht : P.underlying t = some (.slice E)) (hinfo : (P.info? E).map (fun i => (i.zero, i.size)) = some (some z, C))
    (hn : vs.length = n) (hn0 : 0 < n) (hC : 0 < C) (hl : ∀ v ∈ vs, v.length = C) (hsz : n * C ≤ 16777216)
    (hp : (ps.map fun (i, x) => (i, a.eval x)) = (vs.zipIdx 0).map fun p => (p.2, Value.agg p.1.toArray))
    (h : ∀ g w', g = w.heap.size → w' = w.alloc (.cells vs.flatten.toArray E) → wpList P ops Q rest (a.put o.dst (.slice (some ⟨g, 0, none⟩) n n)) w') : wpList P ops Q (o :: rest) a w := by
  refine BigFrame.wpList_want hw fun K hK => ?_
  subst hn
  unfold Oper.wp execOp
  simp only [ho, List.map_toArray, hp]
  rw [Sem.run_bind, run_build w t E C vs z ht hinfo hn0 hC hl hsz]
  exact hK _ _ (h _ _ rfl rfl)
end
end Go.Proofs.YtippdjaakcgeoaaGreat
