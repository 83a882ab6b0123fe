/- Lemmas of the walks: DnE, RgD. (Laid together by shake.py.) -/
import Derived.Test.YtippdjaakcgeoaaGreatNe04
import Derived.Test.YtippdjaakcgeoaaGreatNe08
import Derived.Test.YtippdjaakcgeoaaGreatNe11
set_option linter.unusedVariables false
set_option linter.unusedSimpArgs false
namespace Go.Proofs.YtippdjaakcgeoaaGreat
open Go Go.RowKit
set_option linter.unusedVariables false
set_option linter.unusedSimpArgs false

def takeDR (w : World) (O I : Nat → Prop) (X : DocM) (b : Int) (v i : Value) (wr : World) : Prop :=
  ∃ (k : Nat) (ys : List LetM) (A : Option Addr) (c : Nat) (O2 I2 : Nat → Prop) (X2 : DocM), k ≤ 5 ∧ i = .int .i64 ((k : Int) + 1) ∧ v = .slice A ys.length c ∧ ys.map LetM.x = (takeD X.L b k).1 ∧ Own wr 50 20 A ys.length c (letsC ys) ∧ (∀ j, inA A j → w.heap.size ≤ j ∧ ¬ O2 j ∧ ¬ I2 j) ∧ (∀ y ∈ ys, LetIn wr I2 y ∧ LetSz y) ∧
    IsDoc wr O2 I2 X2 ∧ X2.g = X.g ∧ X2.L = (takeD X.L b k).2 ∧ Fr O w wr ∧ (∀ k, O2 k → O k ∨ w.heap.size ≤ k) ∧ ∀ k, I2 k → I k ∨ w.heap.size ≤ k
set_option maxRecDepth 100000 in
set_option maxHeartbeats 8000000 in
theorem dTake_any (w : World) (O I : Nat → Prop) (X : DocM) (h : IsDoc w O I X) (hsz : X.r.l.length ≤ 100000000) (b : Int) :
    Calls Tryz.prog 57 #[.pointer (some ⟨X.g, 0, none⟩), I64 b] w fun e w' => ∃ A c ys, ∃ (O' I' : Nat → Prop) (X' : DocM), e = .returned (.slice A ys.length c) ∧ ys.map LetM.x = (takeD X.L b 5).1 ∧ Sl w' (fun k => w.heap.size ≤ k ∧ ¬ O' k) A (letsC ys) ∧ (∀ y ∈ ys, LetIn w' I' y ∧ LetSz y) ∧
      IsDoc w' O' I' X' ∧ X'.g = X.g ∧ X'.L = (takeD X.L b 5).2 ∧ Fr O w w' ∧ (∀ k, O' k → O k ∨ w.heap.size ≤ k) ∧ ∀ k, I' k → I k ∨ w.heap.size ≤ k := by
  have hlen := fun k => takeD_len X.L b k
  have hLl : X.L.length ≤ 100000000 := by rw [List.length_map]; exact hsz
  go_enter Tryz.func57, Tryz.ntmps57
  go_wp2_with fail
  go_loopw [5, 6] (fun v i wr => takeDR w O I X b v i wr) (fun _ i _ => 6 - (intOf i).toNat)
  case atStart => exact ⟨0, [], none, 0, O, I, X, Nat.zero_le _, rfl, rfl, rfl, Own.nil _ _ _, fun k hk => (inA_none k hk).elim, (by intro y hy; cases hy), h, rfl, rfl, Fr.refl _ _, fun _ h => .inl h, fun _ h => .inl h⟩
  case round =>
    obtain ⟨k, ys, A, c, O2, I2, X2, hk, rfl, rfl, hys, ho, hA, hin, hN, eg, eL, hq, hO2, hI2⟩ := hrel
    have hlk := hlen k
    rw [← hys, ← eL, List.length_map, List.length_map] at hlk
    have HYS := Lib.hid hys
    have HIN := Lib.hid hin
    have HL := Lib.hid eL
    have HEG := Lib.hid eg
    rw [← eg]
    clear hys hin eL eg
    by_cases hlt : k < 5
    · have hi0 : (k : Int) + 1 ≤ 5 := by omega
      have hw := dWaiting_any wr O2 I2 X2 hN (by omega) ((k : Int) + 1) b
      have hle := lnk_le X2.L ((k : Int) + 1, b)
      rw [List.length_map] at hle
      have hT1 : (takeD X.L b (k + 1)).1 = (takeD X.L b k).1 ++ lnk (takeD X.L b k).2 (((k + 1 : Nat) : Int), b) := rfl
      have hT2 : (takeD X.L b (k + 1)).2 = setD (takeD X.L b k).2 (((k + 1 : Nat) : Int), b) [] := rfl
      have hkc : ((k + 1 : Nat) : Int) = (k : Int) + 1 := by omega
      rw [hkc] at hT1 hT2
      have HT1 := Lib.hid hT1
      have HT2 := Lib.hid hT2
      have hset : ∀ w5, Fr (inA A) wr w5 → IsDoc w5 O2 I2 X2 ∧ Calls Tryz.prog 106 #[.pointer (some ⟨X2.g, 0, none⟩), I64 ((k : Int) + 1), I64 b, .slice none 0 0] w5 fun e w' => e = .returned (.tuple #[]) ∧ ∃ D', DocSet w5 w' O2 I2 (fun _ => False) X2 D' ((k : Int) + 1, b) [] := fun w5 f5 => by
        have N5 := hN.fr f5 (fun j hj hh => (hA j hh).2.1 hj) (fun j hj hh => (hA j hh).2.2 hj)
        exact ⟨N5, dSet_any w5 O2 I2 (fun _ => False) X2 N5 (by omega) ((k : Int) + 1) b none 0 [] (Sl.nil _ _ _) (fun k hk => hk.elim) (by simp)⟩
      have HSET := Lib.hid hset
      clear hT1 hT2 hkc hset
      go_wp2_with (first | (go_at_call 59; refine hw.mono ?_; rintro e w1 ⟨A1, c1, zs, rfl, ez, oz, iz, zz, q1, b1⟩; have hzl : zs.length ≤ X2.r.l.length := (by have := congrArg List.length ez; rw [List.length_map] at this; omega); have EZ := Lib.hid ez; have IZ := Lib.hid iz; have ZZ := Lib.hid zz; clear ez iz zz) | (at_builtin; refine wl_append2 rfl _ _ _ rfl 256 (.agg #[U8V 0, I64 0, I64 0, I64 0, I64 0, I64 0, I64 0, I64 0, .bool false, .slice none 0 0, I64 0, I64 0, .slice none 0 0, .slice none 0 0, .slice none 0 0, .slice none 0 0, I64 0, I64 0, I64 0, .slice none 0 0]) Tryz.underlying28 info_let rfl (by decide) rfl (ho.fr q1 (fun _ _ h => h)) rfl oz.sl (letsC_len _) (letsC_cell _) (by omega) (by unfold maxLen; omega) ?_; intro B' c' w2 hap; obtain ⟨N2, hst⟩ := HSET.out w2 ((Nw.on q1).tr hap.fr)) | (go_at_call 106; refine hst.mono ?_; rintro e w3 ⟨rfl, X3, hX3⟩))
      go_roundw
      case rel =>
        have hin9 := hap.inA_
        have hAl := ho.lt
        have h1 := q1.size
        have h2 := hap.fr.size
        have hw0 := hq.size
        have hBw : ∀ j, inA B' j → j < w2.heap.size := hap.1.lt
        have hBO : ∀ j, inA B' j → w.heap.size ≤ j ∧ ¬ O2 j ∧ ¬ I2 j := fun j hj => by
          rcases hin9 j hj with h9 | h9
          · exact hA j h9
          · exact ⟨by omega, fun hh => by have := hN.ol j hh; omega, fun hh => by have := hN.il j hh; omega⟩
        obtain ⟨N3, e3, f3⟩ := DocSet.doc (J := fun j => ((wr.heap.size ≤ j ∧ ¬ inA A1 j) ∧ ¬ inA B' j) ∧ j < w2.heap.size) N2 hX3 (fun j hj => ⟨hj.2, fun hh => by have := hN.ol j hh; have := hj.1.1.1; omega⟩) (by intro x hx; cases hx) (by intro x hx; cases hx)
        have oB := hap.1.fr f3 (fun j hj => (hBO j hj).2.1)
        have hnew := hX3.new
        refine ⟨k + 1, ys ++ zs, B', c', _, _, X3, by omega, by go_num, by rw [List.length_append], ?_, by rw [List.length_append, letsC_append]; exact oB, fun j hj => ⟨(hBO j hj).1, fun hh => ?_, fun hh => ?_⟩, fun y hy => ?_, N3, by rw [hX3.g]; exact HEG.out, ?_, ?_, fun j hj => ?_, fun j hj => ?_⟩
        · rw [List.map_append, HYS.out, EZ.out, HL.out, HT1.out]
        · rcases hh with hh | hh
          · exact (hBO j hj).2.1 hh
          · have := hnew j hh; have := hBw j hj; omega
        · rcases hh with hh | hh
          · exact (hBO j hj).2.2 hh
          · exact hh.1.2 hj
        · rcases List.mem_append.1 hy with hy | hy
          · exact ⟨((((HIN.out y hy).1.nw q1).fr hap.fr (fun j hj hh => (hA j hh).2.2 hj)).fr f3 (fun j hj hh => hN.dis j hh hj)).mono fun j hj _ => .inl hj, (HIN.out y hy).2⟩
          · refine ⟨?_, ZZ.out y hy⟩
            have g1 := ((IZ.out y hy).mono (F' := fun j => ((wr.heap.size ≤ j ∧ ¬ inA A1 j) ∧ ¬ inA B' j) ∧ j < w2.heap.size) (fun j hj hl => ⟨⟨⟨hj.1, hj.2⟩, fun hh => by
              rcases hin9 j hh with h9 | h9
              · have := hAl j h9; have := hj.1; unfold Since at this; omega
              · omega⟩, by omega⟩))
            exact ((g1.fr hap.fr (fun j hj hh => by have := hAl j hh; have := hj.1.1.1; omega)).fr f3 (fun j hj hh => by have := hN.ol j hh; have := hj.1.1.1; omega)).mono fun j hj _ => .inr hj
        · rw [e3, HL.out, HT2.out]; rfl
        · refine ((hq.tr (Nw.on q1)).trans hap.fr (fun j hj => .inr (hA j hj).1)).trans f3 (fun j hj => hO2 j hj)
        · rcases hj with hj | hj
          · exact hO2 j hj
          · have := hnew j hj; exact .inr (by omega)
        · rcases hj with hj | hj
          · exact hI2 j hj
          · have := hj.1.1.1; exact .inr (by omega)
      case measure => simp [intOf]; omega
    · obtain rfl : k = 5 := by omega
      go_wp2_with fail
      go_ret
      exact ⟨A, c, ys, O2, I2, X2, rfl, HYS.out, ho.sl.mono fun j hj _ => ⟨(hA j hj).1, (hA j hj).2.1⟩, HIN.out, hN, HEG.out, HL.out, hq, hO2, hI2⟩
/-- The last of a row's link made the first. -/
def fwD (L : List LetF) (n : Nm) : List LetF × Bool :=
  match (lnk L n).getLast? with
  | none => (L, false)
  | some x => (setD L n (x :: (lnk L n).dropLast), true)
abbrev FwD := Nat × Option Addr × DocM
def fdS2 (W : World) (x : LetM) (t b : FwD) (w : World) : Prop := Nw W w ∧ Own w 50 20 (some ⟨b.1, 0, none⟩) 1 1 (letL x) ∧ W.heap.size ≤ b.1
def fdS3 (W : World) (cs : List Value) (m : Nat) (t b : FwD) (w : World) : Prop := Nw W w ∧ Own w 50 20 b.2.1 (1 + m) b.1 cs ∧ ∀ k, inA b.2.1 k → W.heap.size ≤ k
def fdS4 (W : World) (cs : List Value) (m : Nat) (O I F : Nat → Prop) (X : DocM) (n : Nm) (ls : List LetM) (t b : FwD) (w : World) : Prop :=
  ∃ wx X', fdS3 W cs m t b wx ∧ DocSet wx w O I F X X' n ls
set_option maxRecDepth 100000 in
set_option maxHeartbeats 4000000 in
theorem dForward_any (w : World) (O I : Nat → Prop) (X : DocM) (h : IsDoc w O I X) (hsz : X.r.l.length ≤ 100000000) (a b : Int) :
    Calls Tryz.prog 56 #[.pointer (some ⟨X.g, 0, none⟩), I64 a, I64 b] w fun e w' => e = .returned (.bool (fwD X.L (a, b)).2) ∧ ∃ (O' I' : Nat → Prop) (X' : DocM), IsDoc w' O' I' X' ∧ X'.g = X.g ∧ X'.L = (fwD X.L (a, b)).1 ∧ Fr O w w' ∧ (∀ k, O' k → O k ∨ w.heap.size ≤ k) ∧ ∀ k, I' k → I k ∨ w.heap.size ≤ k := by
  have hw0 := dWaiting_any w O I X h hsz a b
  have hle := lnk_le X.L (a, b)
  rw [List.length_map] at hle
  have hOw := h.ol
  have hIw := h.il
  by_cases hn0 : lnk X.L (a, b) = []
  · have e1 : fwD X.L (a, b) = (X.L, false) := by unfold fwD; rw [hn0]; rfl
    rw [e1]
    have hw : Calls Tryz.prog 59 #[.pointer (some ⟨X.g, 0, none⟩), I64 a, I64 b] w fun e w' => ∃ A c, e = .returned (.slice A 0 c) ∧ Nw w w' := hw0.mono fun e w' h => by
      obtain ⟨A, c, ys, h1, h2, _, _, _, h3, _⟩ := h
      rw [hn0] at h2
      rw [List.map_eq_nil_iff.1 h2] at h1
      exact ⟨A, c, h1, h3⟩
    clear hw0 hn0 e1
    go_enter Tryz.func56, Tryz.ntmps56
    go_wp2_with (go_at_call 59; refine hw.mono ?_; rintro e w1 ⟨A1, c1, rfl, q1⟩)
    go_ret
    exact ⟨rfl, O, I, X, h.nw q1, rfl, rfl, Nw.on q1, fun _ h => .inl h, fun _ h => .inl h⟩
  · have hw : Calls Tryz.prog 59 #[.pointer (some ⟨X.g, 0, none⟩), I64 a, I64 b] w fun e w' => ∃ A c x i m, e = .returned (.slice A (m + 1) c) ∧ m = i.length ∧ (i ++ [x]).map LetM.x = lnk X.L (a, b) ∧ Own w' 50 20 A (m + 1) c (letsC (i ++ [x])) ∧ (∀ y ∈ i ++ [x], LetIn w' (fun j => Since w j ∧ ¬ inA A j) y) ∧ (∀ y ∈ i ++ [x], LetSz y) ∧ Nw w w' ∧ (∀ k, inA A k → w.heap.size ≤ k) ∧ m + 1 ≤ 100000000 := hw0.mono fun e w' h => by
      obtain ⟨A, c, ys, h1, h2, h3, h4, h5, h6, h7⟩ := h
      have hne : ys ≠ [] := by rintro rfl; exact hn0 h2.symm
      have hyl : ys.length ≤ X.r.l.length := by have := congrArg List.length h2; rw [List.length_map] at this; omega
      have hdl : ys = ys.dropLast ++ [ys.getLast hne] := (List.dropLast_concat_getLast hne).symm
      have hln : ys.length = ys.dropLast.length + 1 := by rw [List.length_dropLast]; have := List.length_pos_iff.2 hne; omega
      refine ⟨A, c, ys.getLast hne, ys.dropLast, ys.dropLast.length, by rw [← hln]; exact h1, rfl, by rw [← hdl]; exact h2, by rw [← hln, ← hdl]; exact h3, by rw [← hdl]; exact h4, by rw [← hdl]; exact h5, h6, h7, by omega⟩
    clear hw0 hn0
    obtain ⟨T, hT⟩ : ∃ T, T = fwD X.L (a, b) := ⟨_, rfl⟩
    rw [← hT]
    have hT2 : ∀ x (i : List LetM), (i ++ [x]).map LetM.x = lnk X.L (a, b) → T = (setD X.L (a, b) ((x :: i).map LetM.x), true) := fun x i h1 => by
      rw [hT]
      unfold fwD
      rw [← h1, List.map_append, List.map_singleton, List.getLast?_concat, List.dropLast_concat]
      rfl
    have HT := Lib.hid hT2
    clear hT hT2
    go_enter Tryz.func56, Tryz.ntmps56
    go_upto_region 2 with (go_at_call 59; refine hw.mono ?_; rintro e w1 ⟨A1, c1, x, i, m, rfl, hm, er, o1, i1, z1, q1, b1, hm8⟩; have HM := Lib.hid hm; clear hm)
    have HET := Lib.hid (HT.out x i er)
    have hne : ¬ (m : Int) + 1 = 0 := by omega
    have hlt9 : (m : Int) < (m : Int) + 1 := by omega
    have hcap := o1.cap_le
    have N1 := h.nw q1
    have hlet := o1.sl.let_ (k := m) (by rw [List.length_append, HM.out]; simp)
    have hxe : (i ++ [x])[m]'(by rw [List.length_append, HM.out]; simp) = x := by simp [HM.out]
    rw [hxe] at hlet
    obtain ⟨g2, o2, rfl, _, _, hc0⟩ := hlet
    have hin : inA (some ⟨g2, o2, none⟩) g2 := (inA_some _ _).2 rfl
    have hg2 : g2 < w1.heap.size := o1.lt _ hin
    have hsi : Sl w1 (fun k => k = g2) (some ⟨g2, o2, none⟩) (letsC i) := by
      have h1 := o1.sl.pre (k := i.length * 20)
      rw [letsC_append, List.take_left' (letsC_len i)] at h1
      exact h1.mono fun k hk _ => (inA_some _ _).1 hk
    have hslc := slice_h (P := Tryz.prog) 28 under_letsD 20 size_letsD (some ⟨g2, o2, none⟩) (m + 1) c1 m (by omega)
    have hc : ∀ w9, Nw w1 w9 → ∀ j u, (letL x)[j]? = some u → w9.cell? ⟨g2, o2 + m * 20 + j, none⟩ = some u := fun w9 q9 j u hu => (q9.cell (p := ⟨g2, o2 + m * 20 + j, none⟩) hg2 (fun h => h)).trans (hc0 j u hu)
    have ER := Lib.hid er
    have I1 := Lib.hid i1
    have Z1 := Lib.hid z1
    have HC := Lib.hid hc
    clear er i1 z1 hw hxe hc hc0
    go_upto_region 5 with (fail)
    refine wp_region_appT (T := FwD) 6 7 11 12 (fun w9 => Nw w1 w9) (fun _ w9 => Nw w1 w9) (fdS2 w1 x) (fdS3 w1 (letsC (x :: i)) m) (fdS4 w1 (letsC (x :: i)) m O I (fun k => w.heap.size ≤ k) X (a, b) (x :: i)) (fun _ => (0, none, ⟨0, lsZ⟩)) (by kernel_rfl) (by kernel_rfl) ((Fr.refl (fun _ => False) w1).drew) ?_
    apply wpEffT_cons
    focus
      intro B L w9 hL hD hC
      refine .inl ⟨by rfl, ?_⟩
      unfold effAt
      go_simp
      exact ⟨rfl, hC.keep (by kernel_rfl) hD (by rfl) (by rfl) (by rfl) (by rfl)⟩
    simp only [Act.put, List.setIfInBounds_toArray, List.set_cons_zero, List.set_cons_succ]
    apply wpEffT_cons
    focus
      intro B L w9 hL hD hC
      refine .inl ⟨by rfl, ?_⟩
      unfold effAt
      go_simp
      exact ⟨rfl, hC.keep (by kernel_rfl) hD (by rfl) (by rfl) (by rfl) (by rfl)⟩
    simp only [Act.put, List.setIfInBounds_toArray, List.set_cons_zero, List.set_cons_succ]
    apply wpEffT_cons
    focus
      intro B L w9 hL hD hC
      refine .inl ⟨by rfl, ?_⟩
      unfold effAt
      go_simp
      exact ⟨rfl, hC.keep (by kernel_rfl) hD (by rfl) (by rfl) (by rfl) (by rfl)⟩
    simp only [Act.put, List.setIfInBounds_toArray, List.set_cons_zero, List.set_cons_succ]
    apply wpEffT_cons
    focus
      intro B L w9 hL hD hC
      refine .inl ⟨by rfl, ?_⟩
      unfold effAt
      go_simp
      exact ⟨rfl, hC.keep (by kernel_rfl) hD (by rfl) (by rfl) (by rfl) (by rfl)⟩
    simp only [Act.put, List.setIfInBounds_toArray, List.set_cons_zero, List.set_cons_succ]
    apply wpEffT_cons
    focus
      intro B L w9 hL hD hC
      refine .inl ⟨by rfl, ?_⟩
      unfold effAt
      go_simp
      exact ⟨rfl, hC.keep (by kernel_rfl) hD (by rfl) (by rfl) (by rfl) (by rfl)⟩
    simp only [Act.put, List.setIfInBounds_toArray, List.set_cons_zero, List.set_cons_succ]
    apply wpEffT_cons
    focus
      intro B L w9 hL hD hC
      refine .inl ⟨by rfl, ?_⟩
      unfold effAt
      go_simp
      exact ⟨rfl, hC.keep (by kernel_rfl) hD (by rfl) (by rfl) (by rfl) (by rfl)⟩
    simp only [Act.put, List.setIfInBounds_toArray, List.set_cons_zero, List.set_cons_succ]
    refine wpEffT_free (fun b => .agg (letA x)) ?_ ?_
    focus
      intro B L w9 hL hD hC
      obtain ⟨h1, h2⟩ := hC.call hL (by kernel_rfl) (by kernel_rfl) (by kernel_rfl) (by kernel_rfl) hD (by rfl) (by rfl) (by rfl)
      refine .inl ⟨by rfl, ?_⟩
      exact effUponT_const (vf := fun b => .agg (letA x)) (b := (0, none, ⟨0, lsZ⟩)) rfl (fun w8 h8 => h2 w8 _ h8) (effAt_cells 50 _ rfl g2 (o2 + m * 20) rfl (letL x) _ (HC.out w9 h1) Tryz.underlying50 rfl (by kernel_rfl) h1)
    simp only [Act.put, List.setIfInBounds_toArray, List.set_cons_zero, List.set_cons_succ]
    refine wpEffT_free (fun b => .slice (some ⟨b.1, 0, none⟩) 1 1) ?_ ?_
    focus
      intro B L w9 hL hD hC
      obtain ⟨h1, h2⟩ := hC.build hL (hD 6 (by kernel_rfl)) (by kernel_rfl) (by kernel_rfl) (by kernel_rfl) hD (by rfl) (by rfl) (by rfl)
      refine .inl ⟨by rfl, ?_⟩
      unfold effAtT
      go_simp
      exact ⟨(w9.heap.size, none, ⟨0, lsZ⟩), rfl, h2 (w9.alloc (.cells (letA x) 50)) _ ⟨h1.alloc _, own_new w9 50 20 1 (letL x) (by unfold maxLen; omega) rfl, h1.size⟩⟩
    simp only [Act.put, List.setIfInBounds_toArray, List.set_cons_zero, List.set_cons_succ]
    apply wpEffT_cons
    focus
      intro B L w9 hL hD hC
      refine .inl ⟨by rfl, ?_⟩
      unfold effAt
      go_simp
      exact ⟨rfl, hC.keep (by kernel_rfl) hD (by rfl) (by rfl) (by rfl) (by rfl)⟩
    simp only [Act.put, List.setIfInBounds_toArray, List.set_cons_zero, List.set_cons_succ]
    apply wpEffT_cons
    focus
      intro B L w9 hL hD hC
      refine .inl ⟨by rfl, ?_⟩
      unfold effAt
      go_simp
      exact ⟨rfl, hC.keep (by kernel_rfl) hD (by rfl) (by rfl) (by rfl) (by rfl)⟩
    simp only [Act.put, List.setIfInBounds_toArray, List.set_cons_zero, List.set_cons_succ]
    apply wpEffT_cons
    focus
      intro B L w9 hL hD hC
      refine .inl ⟨by rfl, ?_⟩
      unfold effAt
      go_simp
      exact ⟨rfl, hC.keep (by kernel_rfl) hD (by rfl) (by rfl) (by rfl) (by rfl)⟩
    simp only [Act.put, List.setIfInBounds_toArray, List.set_cons_zero, List.set_cons_succ]
    refine wpEffT_free (fun b => .slice b.2.1 (1 + m) b.1) ?_ ?_
    focus
      intro B L w9 hL hD hC
      obtain ⟨h1, h2⟩ := hC.app hL (hD 7 (by kernel_rfl)) (by kernel_rfl) (by kernel_rfl) hD (by rfl) (by rfl)
      refine .inl ⟨by rfl, ?_⟩
      refine effAtT_append _ _ 28 rfl 256 (.agg #[U8V 0, I64 0, I64 0, I64 0, I64 0, I64 0, I64 0, I64 0, .bool false, .slice none 0 0, I64 0, I64 0, .slice none 0 0, .slice none 0 0, .slice none 0 0, .slice none 0 0, I64 0, I64 0, I64 0, .slice none 0 0]) Tryz.underlying28 info_let (by rfl) (by omega) rfl h1.2.1 rfl (hsi.fr h1.1 (fun _ _ h => h)) (by rw [letsC_len, HM.out]) (letsC_cell _) (by omega) (by unfold maxLen; omega) (fun A' cap' w' hA => ⟨(cap', A', ⟨0, lsZ⟩), rfl, h2 _ _ ?_⟩)
      have hAn : ∀ k, inA (some ⟨(B 7).1, 0, none⟩) k → w1.heap.size ≤ k := fun k hk => by rw [(inA_some _ _).1 hk]; exact h1.2.2
      exact ⟨h1.1.new hA.fr hAn, hA.1, fun k hk => (hA.inA_ k hk).elim (hAn k) (fun e => by have := h1.1.size; omega)⟩
    simp only [Act.put, List.setIfInBounds_toArray, List.set_cons_zero, List.set_cons_succ]
    apply wpEffT_cons
    focus
      intro B L w9 hL hD hC
      obtain ⟨h1, h2⟩ := hC.store hL (hD 11 (by kernel_rfl)) (by kernel_rfl) hD
      have hset := dSet_any w9 O I (fun k => w.heap.size ≤ k) X (N1.nw h1.1) hsz a b (B 11).2.1 (B 11).1 (x :: i) (by
        have h8 := h1.2.1.sl
        exact h8.mono fun k hk _ => Nat.le_trans q1.size (h1.2.2 k hk)) (fun k hk e => by have := h.blk.lt; omega) (by rw [List.length_cons]; have := HM.out; omega)
      have e5 : (x :: i).length = 1 + m := by rw [List.length_cons, HM.out]; omega
      rw [e5] at hset
      refine .inl ⟨by rfl, ?_⟩
      unfold effAt
      go_simp
      refine hset.mono ?_
      rintro e w8 ⟨rfl, X8, hX8⟩
      exact ⟨rfl, h2 _ ⟨w9, X8, h1, hX8⟩⟩
    simp only [Act.put, List.setIfInBounds_toArray, List.set_cons_zero, List.set_cons_succ]
    refine wpEffT_nil fun B wf hC => ?_
    have hfin := hC.fin (by rfl)
    obtain ⟨⟨c', A', X0⟩, hb⟩ : ∃ b, b = B 11 := ⟨_, rfl⟩
    rw [← hb] at hfin
    clear hC hb
    obtain ⟨wx, X6, ⟨q3, o3, b3⟩, hX6⟩ := hfin
    dsimp only at o3 b3
    have h1 := q1.size
    have h3 := q3.size
    have I2 : ∀ z ∈ x :: i, LetIn wx (fun k => (w.heap.size ≤ k ∧ ¬ inA (some ⟨g2, o2, none⟩) k) ∧ k < wx.heap.size) z := fun z hz => by
      have hm9 : z ∈ i ++ [x] := by
        rcases List.mem_cons.1 hz with rfl | hz
        · simp
        · exact List.mem_append_left _ hz
      exact ((I1.out z hm9).nw q3).mono fun k hk hl => ⟨hk, hl⟩
    have Z2 : ∀ z ∈ x :: i, LetSz z := fun z hz => Z1.out z (by
      rcases List.mem_cons.1 hz with rfl | hz
      · simp
      · exact List.mem_append_left _ hz)
    obtain ⟨N6, e6, f6⟩ := DocSet.doc (N1.nw q3) hX6 (fun k hk => ⟨hk.2, fun ho => by have := hOw k ho; omega⟩) I2 Z2
    have HN6 := Lib.hid N6
    have HE6 := Lib.hid e6
    have hg6 := hX6.g
    have hnew := hX6.new
    have HG6 := Lib.hid hg6
    clear N6 e6 hX6 o3 b3 hg6 I2 Z2
    go_wp2_with fail
    go_ret
    refine ⟨by rw [HET.out]; rfl, _, _, X6, HN6.out, HG6.out, by rw [HE6.out, HET.out], (Nw.on (q1.tr q3)).tr f6, fun k hk => ?_, fun k hk => ?_⟩
    · rcases hk with hk | hk
      · exact .inl hk
      · have := hnew k hk; exact .inr (by omega)
    · rcases hk with hk | hk
      · exact .inl hk
      · exact .inr hk.1.1
end Go.Proofs.YtippdjaakcgeoaaGreat

namespace Go.Proofs.YtippdjaakcgeoaaGreat
open Go Go.RowKit
set_option linter.unusedVariables false
set_option linter.unusedSimpArgs false
theorem bas_parts (x : BasM) : basOk x.x = (decide (0 ≤ x.index) && (decide (x.index ≤ 1073741824) && (decide (0 ≤ x.term) && (decide (x.term ≤ 1073741824) && cfgOk x.cfg.x)))) := by
  rw [Bool.eq_iff_iff]
  unfold basOk topOk
  simp only [Bool.and_eq_true, decide_eq_true_eq]
  constructor
  · rintro ⟨⟨a, b⟩, ⟨c, d⟩, e⟩; exact ⟨a, b, c, d, e⟩
  · rintro ⟨a, b, c, d, e⟩; exact ⟨⟨a, b⟩, ⟨c, d⟩, e⟩
set_option maxRecDepth 100000 in
set_option maxHeartbeats 4000000 in
theorem rbas (w : World) (F : Nat → Prop) (x : BasM) (hx : CfgIn w F x.cfg) (hz : CfgSz x.cfg) :
    Calls Tryz.prog 131 #[.agg (basA x)] w fun e w' => e = .returned (.bool (basOk x.x)) ∧ Nw w w' := by
  obtain ⟨W0, hW0⟩ : ∃ W, W = w.alloc (.cells (basA x) 47) := ⟨_, rfl⟩
  have p0 : Nw w W0 := by rw [hW0]; exact (Fr.refl (fun _ => False) _).alloc _
  have b0 : Blk W0 w.heap.size 47 (basA x) := by rw [hW0]; exact Blk.new _ _ _
  have k0 : W0.cell? ⟨w.heap.size, 0, none⟩ = some (I64 x.index) := by simpa using b0.cell 0
  have k1 : W0.cell? ⟨w.heap.size, 1, none⟩ = some (I64 x.term) := by simpa using b0.cell 1
  have kc : ∀ p u, ([.slice x.cfg.v.a x.cfg.v.l.length x.cfg.v.c, .slice x.cfg.o.a x.cfg.o.l.length x.cfg.o.c, .slice x.cfg.l.a x.cfg.l.l.length x.cfg.l.c, .slice x.cfg.w.a x.cfg.w.l.length x.cfg.w.c] : List Value)[p]? = some u → W0.cell? ⟨w.heap.size, 2 + p, none⟩ = some u := Blk.cells_in (l := [I64 x.index, I64 x.term, .slice x.cfg.v.a x.cfg.v.l.length x.cfg.v.c, .slice x.cfg.o.a x.cfg.o.l.length x.cfg.o.c, .slice x.cfg.l.a x.cfg.l.l.length x.cfg.l.c, .slice x.cfg.w.a x.cfg.w.l.length x.cfg.w.c]) b0 2 4
  have hcon := rcfg W0 F x.cfg (hx.nw p0) hz
  have hp := bas_parts x
  obtain ⟨r, hr⟩ : ∃ d, basOk x.x = d := ⟨_, rfl⟩
  obtain ⟨d, hd⟩ : ∃ d, cfgOk x.cfg.x = d := ⟨_, rfl⟩
  rw [hd] at hp hcon
  rw [hr] at hp ⊢
  have hno : r = true → (0 ≤ x.index ∧ x.index ≤ 1073741824) ∧ 0 ≤ x.term ∧ x.term ≤ 1073741824 := fun h => by
    rw [hp] at h
    simp only [Bool.and_eq_true, decide_eq_true_eq] at h
    exact ⟨⟨h.1, h.2.1⟩, h.2.2.1, h.2.2.2.1⟩
  have hyes : (0 ≤ x.index ∧ x.index ≤ 1073741824) → (0 ≤ x.term ∧ x.term ≤ 1073741824) → d = r := fun h1 h2 => by
    rw [hp, decide_eq_true h1.1, decide_eq_true h1.2, decide_eq_true h2.1, decide_eq_true h2.2]; simp
  have HW0 := Lib.hid hW0
  have HNO := Lib.hid hno
  have HYES := Lib.hid hyes
  have HC := Lib.hid hcon
  clear hW0 hno hyes hcon hp hr hd b0
  by_cases h1 : 0 ≤ x.index ∧ x.index ≤ 1073741824
  · obtain ⟨h1a, h1b⟩ := h1
    by_cases h2 : 0 ≤ x.term ∧ x.term ≤ 1073741824
    · obtain ⟨h2a, h2b⟩ := h2
      go_enter Tryz.func131, Tryz.ntmps131
      go_upto_region 1 with (fail)
      rw [← HW0.out]
      go_wp2_with (refine wl_cells_want (by kernel_rfl) 45 _ rfl w.heap.size 2 rfl [.slice x.cfg.v.a x.cfg.v.l.length x.cfg.v.c, .slice x.cfg.o.a x.cfg.o.l.length x.cfg.o.c, .slice x.cfg.l.a x.cfg.l.l.length x.cfg.l.c, .slice x.cfg.w.a x.cfg.w.l.length x.cfg.w.c] _ kc Tryz.underlying45 rfl (by kernel_rfl) ?_)
      refine HC.out.mono ?_
      rintro e w1 ⟨rfl, q1⟩
      go_wp2_with fail
      go_ret
      exact ⟨ret_eq (congrArg Value.bool (HYES.out ⟨h1a, h1b⟩ ⟨h2a, h2b⟩)), p0.tr q1⟩
    · have hrf : r = false := Bool.eq_false_iff.2 fun h => h2 (HNO.out h).2
      subst hrf
      by_cases h3 : 0 ≤ x.term
      · have h4 : ¬ x.term ≤ 1073741824 := fun h => h2 ⟨h3, h⟩
        clear h2
        go_enter Tryz.func131, Tryz.ntmps131
        go_upto_region 1 with (fail)
        rw [← HW0.out]
        go_wp2_with fail
        go_ret
        exact ⟨rfl, p0⟩
      · clear h2
        go_enter Tryz.func131, Tryz.ntmps131
        go_upto_region 1 with (fail)
        rw [← HW0.out]
        go_wp2_with fail
        go_ret
        exact ⟨rfl, p0⟩
  · have hrf : r = false := Bool.eq_false_iff.2 fun h => h1 (HNO.out h).1
    subst hrf
    by_cases h3 : 0 ≤ x.index
    · have h4 : ¬ x.index ≤ 1073741824 := fun h => h1 ⟨h3, h⟩
      clear h1
      go_enter Tryz.func131, Tryz.ntmps131
      go_upto_region 1 with (fail)
      rw [← HW0.out]
      go_wp2_with fail
      go_ret
      exact ⟨rfl, p0⟩
    · clear h1
      go_enter Tryz.func131, Tryz.ntmps131
      go_upto_region 1 with (fail)
      rw [← HW0.out]
      go_wp2_with fail
      go_ret
      exact ⟨rfl, p0⟩
/-- The numbers of a letter that are at most the top. -/
def topNs (x : LetM) : List Int := [x.term, x.index, x.logt, x.commit, x.size, x.at_]
def RRightR (V : World) (x : LetM) (i : Value) (wr : World) : Prop := ∃ k : Nat, k ≤ 6 ∧ i = .int .i64 k ∧ Nw V wr
def RRightE (V : World) (x : LetM) (i : Value) (wr : World) : Prop := ∃ k : Nat, k ≤ x.ents.l.length ∧ i = .int .i64 k ∧ (∀ j (h : j < x.ents.l.length), j < k → entOkM x.ents.l[j] = true) ∧ Nw V wr
theorem let_lin (x : LetM) (h : letOk x.x = true) : ((1 ≤ x.kind ∧ x.kind ≤ 8) ∧ (0 ≤ x.group ∧ x.group ≤ 4) ∧ (1 ≤ x.src ∧ x.src ≤ 5) ∧ (1 ≤ x.dst ∧ x.dst ≤ 5)) ∧ (0 ≤ x.tag ∧ x.tag ≤ 4611686018427387903) ∧ x.ents.l.length ≤ 30 ∧ x.bytes.l.length ≤ 131072 := by
  have hs := (letOk_iff _).1 h
  obtain ⟨⟨⟨h8, h9⟩, h10, h11⟩, _, h7, ⟨h12, h15⟩, h14, h13⟩ := hs
  have h12 : (x.ents.l.map EntM.x).length ≤ 30 := h12
  rw [List.length_map] at h12
  exact ⟨⟨h8, h9, h10, h11⟩, h7, h12, h13⟩
theorem let_tops (x : LetM) (h : letOk x.x = true) : ∀ n ∈ topNs x, 0 ≤ n ∧ n ≤ 1073741824 := by
  have hs := ((letOk_iff _).1 h).nums
  obtain ⟨⟨h1, h2⟩, ⟨h3, h4⟩, h5, h6⟩ := hs
  intro n hn
  simp only [topNs, List.mem_cons, List.not_mem_nil, or_false] at hn
  rcases hn with rfl | rfl | rfl | rfl | rfl | rfl
  · exact h1
  · exact h2
  · exact h3
  · exact h4
  · exact h5
  · exact h6
theorem let_base (x : LetM) (h : letOk x.x = true) : basOk x.base.x = true := ((letOk_iff _).1 h).base
theorem let_ents (x : LetM) (h : letOk x.x = true) : ∀ j (hj : j < x.ents.l.length), entOkM x.ents.l[j] = true := fun j hj => ((letOk_iff _).1 h).ents.2 _ (List.mem_map.2 ⟨_, List.getElem_mem hj, rfl⟩)
theorem let_all (x : LetM) (h1 : ∀ n ∈ topNs x, 0 ≤ n ∧ n ≤ 1073741824) (h2 : ((1 ≤ x.kind ∧ x.kind ≤ 8) ∧ (0 ≤ x.group ∧ x.group ≤ 4) ∧ (1 ≤ x.src ∧ x.src ≤ 5) ∧ (1 ≤ x.dst ∧ x.dst ≤ 5)) ∧ (0 ≤ x.tag ∧ x.tag ≤ 4611686018427387903) ∧ x.ents.l.length ≤ 30 ∧ x.bytes.l.length ≤ 131072)
    (h3 : basOk x.base.x = true) (h4 : ∀ j (hj : j < x.ents.l.length), entOkM x.ents.l[j] = true) : letOk x.x = true := by
  obtain ⟨⟨h8, h9, h10, h11⟩, h7, h12, h13⟩ := h2
  refine (letOk_iff _).2 ⟨⟨⟨h8, h9⟩, h10, h11⟩, ⟨⟨h1 _ ?_, h1 _ ?_⟩, ⟨h1 _ ?_, h1 _ ?_⟩, h1 _ ?_, h1 _ ?_⟩, h7, ⟨by show (x.ents.l.map EntM.x).length ≤ 30; rw [List.length_map]; exact h12, fun e he => ?_⟩, h3, h13⟩
  rotate_right
  · obtain ⟨y, hy, rfl⟩ := List.mem_map.1 he
    obtain ⟨j, hj, rfl⟩ := List.mem_iff_getElem.1 hy
    exact h4 j hj
  all_goals simp [topNs]
set_option maxRecDepth 100000 in
set_option maxHeartbeats 16000000 in
theorem rRight_any (w : World) (F : Nat → Prop) (x : LetM) (hx : LetIn w F x) (hz : LetSz x) :
    Calls Tryz.prog 63 #[.agg (letA x)] w fun e w' => e = .returned (.bool (letOk x.x)) ∧ Nw w w' := by
  obtain ⟨X, hX⟩ : ∃ X, X = w.heap.size := ⟨_, rfl⟩
  obtain ⟨W0, hW0⟩ : ∃ W, W = w.alloc (.cells (letA x) 50) := ⟨_, rfl⟩
  have p0 : Nw w W0 := by rw [hW0]; exact (Fr.refl (fun _ => False) _).alloc _
  have b0 : Blk W0 X 50 (letA x) := by rw [hW0, hX]; exact Blk.new _ _ _
  obtain ⟨L, hL⟩ : ∃ L, L = W0.heap.size := ⟨_, rfl⟩
  obtain ⟨V, hV⟩ : ∃ V, V = W0.alloc (.cells #[I64 x.term, I64 x.index, I64 x.logt, I64 x.commit, I64 x.size, I64 x.at_] 3) := ⟨_, rfl⟩
  have p1 : Nw W0 V := by rw [hV]; exact (Fr.refl (fun _ => False) _).alloc _
  have sl : Sl V (· = L) (some ⟨L, 0, none⟩) (intsC (topNs x)) := by rw [hV]; exact sl_new W0 3 (intsC (topNs x)) _ hL.symm
  have b1 := b0.fr p1 (fun h => h)
  have pV := p0.tr p1
  have htl : (topNs x).length = 6 := rfl
  have hlin := let_lin x
  have htop := let_tops x
  have hbas := let_base x
  have hent := let_ents x
  have hall := let_all x
  obtain ⟨r, hr⟩ : ∃ r, letOk x.x = r := ⟨_, rfl⟩
  rw [hr] at hlin htop hbas hent hall ⊢
  obtain ⟨ns, hns⟩ : ∃ ns, topNs x = ns := ⟨_, rfl⟩
  rw [hns] at sl htl htop hall
  have hzb : ∀ w1, Nw V w1 → Calls Tryz.prog 131 #[.agg #[I64 x.base.index, I64 x.base.term, .slice x.base.cfg.v.a x.base.cfg.v.l.length x.base.cfg.v.c, .slice x.base.cfg.o.a x.base.cfg.o.l.length x.base.cfg.o.c, .slice x.base.cfg.l.a x.base.cfg.l.l.length x.base.cfg.l.c, .slice x.base.cfg.w.a x.base.cfg.w.l.length x.base.cfg.w.c]] w1 fun e w' => e = .returned (.bool (basOk x.base.x)) ∧ Nw w1 w' := fun w1 f => rbas w1 F x.base (hx.cfg.nw (pV.tr f)) hz.cfg
  obtain ⟨db, hdb⟩ : ∃ d, basOk x.base.x = d := ⟨_, rfl⟩
  simp only [hdb] at hzb
  rw [hdb] at hbas hall
  have hkd := hx.kind
  have hel : x.ents.l.length ≤ 1000000 := hz.ents
  have hbl : x.bytes.l.length ≤ 1000000 := hz.bytes
  have HX := Lib.hid hX
  have HW0 := Lib.hid hW0
  have HL := Lib.hid hL
  have HV := Lib.hid hV
  have HLIN := Lib.hid hlin
  have HTOP := Lib.hid htop
  have HBAS := Lib.hid hbas
  have HENT := Lib.hid hent
  have HALL := Lib.hid hall
  have HZB := Lib.hid hzb
  have HTL := Lib.hid htl
  have HEI := Lib.hid hx.ents
  have HEE := Lib.hid hx.each
  have HEZ := Lib.hid hz.each
  have k4 : W0.cell? ⟨X, 4, none⟩ = some (I64 x.term) := by simpa using b0.cell 4
  have k5 : W0.cell? ⟨X, 5, none⟩ = some (I64 x.index) := by simpa using b0.cell 5
  have k6 : W0.cell? ⟨X, 6, none⟩ = some (I64 x.logt) := by simpa using b0.cell 6
  have k7 : W0.cell? ⟨X, 7, none⟩ = some (I64 x.commit) := by simpa using b0.cell 7
  have k16 : W0.cell? ⟨X, 16, none⟩ = some (I64 x.size) := by simpa using b0.cell 16
  have k17 : W0.cell? ⟨X, 17, none⟩ = some (I64 x.at_) := by simpa using b0.cell 17
  clear hX hW0 hL hV hlin htop hbas hent hall hzb htl hdb hns hr hx hz b0
  go_enter Tryz.func63, Tryz.ntmps63
  go_upto_region 1 with (fail)
  rw [← HX.out, ← HW0.out]
  go_upto_region 2 with (fail)
  rw [← HL.out, ← HV.out]
  clear k4 k5 k6 k7 k16 k17
  go_wp2_with fail
  go_loopw [4] (fun i wr => RRightR V x i wr ∧ ∀ j, j < (intOf i).toNat → ∀ (h : j < ns.length), 0 ≤ ns[j] ∧ ns[j] ≤ 1073741824) (fun i _ => 6 - (intOf i).toNat)
  case atStart => exact ⟨⟨0, by omega, rfl, Fr.refl _ _⟩, fun j hj => by simp [intOf] at hj⟩
  case round =>
    obtain ⟨⟨k, hk, rfl, hq⟩, hb⟩ := hrel
    have HB : Hid (∀ j, j < k → ∀ (h : j < ns.length), 0 ≤ ns[j] ∧ ns[j] ≤ 1073741824) := Lib.hid (fun j hj h => hb j (by simpa [intOf] using hj) h)
    clear hb
    by_cases hlt : k < 6
    · have hkn : k < ns.length := by rw [HTL.out]; exact hlt
      obtain ⟨b, o', hbo, _, p0c⟩ := (sl.fr hq (fun _ _ h => h)).get hkn
      injection hbo with hbo
      injection hbo with e1 e2 _
      subst e1
      subst e2
      simp only [Nat.zero_add] at p0c
      have hnn := fun h => HTOP.out h ns[k] (List.getElem_mem hkn)
      have hnx : (0 ≤ ns[k] ∧ ns[k] ≤ 1073741824) → ∀ j, j < k + 1 → ∀ (h : j < ns.length), 0 ≤ ns[j] ∧ ns[j] ≤ 1073741824 := fun h0 j hj h => by
        by_cases e : j < k
        · exact HB.out j e h
        · obtain rfl : j = k := by omega
          exact h0
      obtain ⟨n, hn⟩ : ∃ n, ns[k] = n := ⟨_, rfl⟩
      rw [hn] at p0c hnn hnx
      have HNN := Lib.hid hnn
      have HNX := Lib.hid hnx
      have hi0 : (k : Int) < 6 := by omega
      have P0 := fun (m : Later wr) => m.cell p0c
      clear hnn hnx hn
      by_cases h1 : n < 0
      · have g1 : decide (n < 0) = true := decide_eq_true h1
        go_wp2_with fail
        go_ret
        exact ⟨ret_eq (congrArg Value.bool (Bool.eq_false_iff.2 fun h => by have := HNN.out h; omega).symm), (pV.tr hq)⟩
      · have g1 : decide (n < 0) = false := decide_eq_false h1
        have h1' : 0 ≤ n := by omega
        by_cases h2 : 1073741824 < n
        · have g2 : decide (1073741824 < n) = true := decide_eq_true h2
          go_wp2_with fail
          go_ret
          exact ⟨ret_eq (congrArg Value.bool (Bool.eq_false_iff.2 fun h => by have := HNN.out h; omega).symm), (pV.tr hq)⟩
        · have g2 : decide (1073741824 < n) = false := decide_eq_false h2
          have h2' : n ≤ 1073741824 := by omega
          go_wp2_with fail
          go_roundw
          case rel =>
            refine ⟨⟨k + 1, by omega, by go_num, hq⟩, fun j hj h => HNX.out ⟨h1', h2'⟩ j (by simp [intOf] at hj; omega) h⟩
          case measure => simp [intOf]; omega
    · obtain rfl : k = 6 := by omega
      have hB2 : ∀ n ∈ ns, 0 ≤ n ∧ n ≤ 1073741824 := fun n hn => by
        obtain ⟨j, hj, rfl⟩ := List.mem_iff_getElem.1 hn
        exact HB.out j (by rw [HTL.out] at hj; exact hj) hj
      have HB2 := Lib.hid hB2
      have b2 := b1.fr hq (fun h => h)
      have b1x := b1
      have k18 : wr.cell? ⟨X, 18, none⟩ = some (I64 x.tag) := by simpa using b2.cell 18
      have k0 : wr.cell? ⟨X, 0, none⟩ = some (U8V x.kind) := by simpa using b2.cell 0
      have k1 : wr.cell? ⟨X, 1, none⟩ = some (I64 x.group) := by simpa using b2.cell 1
      have k2 : wr.cell? ⟨X, 2, none⟩ = some (I64 x.src) := by simpa using b2.cell 2
      have k3 : wr.cell? ⟨X, 3, none⟩ = some (I64 x.dst) := by simpa using b2.cell 3
      have k9 : wr.cell? ⟨X, 9, none⟩ = some (.slice x.ents.a x.ents.l.length x.ents.c) := by simpa using b2.cell 9
      have k19 : wr.cell? ⟨X, 19, none⟩ = some (.slice x.bytes.a x.bytes.l.length x.bytes.c) := by simpa using b2.cell 19
      clear hB2 HB b1 sl
      by_cases hlx : ((1 ≤ x.kind ∧ x.kind ≤ 8) ∧ (0 ≤ x.group ∧ x.group ≤ 4) ∧ (1 ≤ x.src ∧ x.src ≤ 5) ∧ (1 ≤ x.dst ∧ x.dst ≤ 5)) ∧ (0 ≤ x.tag ∧ x.tag ≤ 4611686018427387903)
      case neg =>
        have hrf : r = false := Bool.eq_false_iff.2 fun h => hlx ⟨(HLIN.out h).1, (HLIN.out h).2.1⟩
        have HRF := Lib.hid hrf
        clear hrf
        by_cases hl1 : 0 ≤ x.tag ∧ x.tag ≤ 4611686018427387903
        case neg =>
          clear hlx
          by_cases hl2 : 0 ≤ x.tag
          · have hl3 : 4611686018427387903 < x.tag := by omega
            clear hl1
            go_wp2_with fail
            go_ret
            exact ⟨ret_eq (congrArg Value.bool HRF.out.symm), pV.tr hq⟩
          · clear hl1
            go_wp2_with fail
            go_ret
            exact ⟨ret_eq (congrArg Value.bool HRF.out.symm), pV.tr hq⟩
        have hl1a := hl1.1
        have hl1b := hl1.2
        have hlz : x.kind < 1 ∨ 8 < x.kind ∨ x.group < 0 ∨ 4 < x.group ∨ x.src < 1 ∨ 5 < x.src ∨ x.dst < 1 ∨ 5 < x.dst := by omega
        clear hlx hl1
        go_upto_if 82 with (fail)
        all_goals (rcases hlz with h | h | h | h | h | h | h | h <;> (go_wp2_with fail; try omega) <;> (try (go_ret; exact ⟨ret_eq (congrArg Value.bool HRF.out.symm), pV.tr hq⟩)))
      obtain ⟨⟨⟨l1, l2⟩, ⟨l3, l4⟩, ⟨l5, l6⟩, l7, l8⟩, l9, l10⟩ := hlx
      have t1 : decide (x.tag < 0) = false := decide_eq_false (by omega)
      have t2 : decide (4611686018427387903 < x.tag) = false := decide_eq_false (by omega)
      have t3 : decide (x.kind < 1) = false := decide_eq_false (by omega)
      have t4 : decide (8 < x.kind) = false := decide_eq_false (by omega)
      have t5 : decide (x.group < 0) = false := decide_eq_false (by omega)
      have t6 : decide (4 < x.group) = false := decide_eq_false (by omega)
      have t7 : decide (x.src < 1) = false := decide_eq_false (by omega)
      have t8 : decide (5 < x.src) = false := decide_eq_false (by omega)
      have t9 : decide (x.dst < 1) = false := decide_eq_false (by omega)
      have t10 : decide (5 < x.dst) = false := decide_eq_false (by omega)
      by_cases h30 : x.ents.l.length ≤ 30
      case neg =>
        have h30i : (30 : Int) < (x.ents.l.length : Int) := by omega
        go_wp2_with fail
        all_goals (go_ret; exact ⟨ret_eq (congrArg Value.bool (Bool.eq_false_iff.2 fun h => by have := HLIN.out h; omega).symm), pV.tr hq⟩)
      have h30i : (x.ents.l.length : Int) ≤ 30 := by omega
      have h30d : decide ((30 : Int) < (x.ents.l.length : Int)) = false := decide_eq_false (by omega)
      by_cases h13 : x.bytes.l.length ≤ 131072
      case neg =>
        have h13i : (131072 : Int) < (x.bytes.l.length : Int) := by omega
        go_wp2_with fail
        all_goals (go_ret; exact ⟨ret_eq (congrArg Value.bool (Bool.eq_false_iff.2 fun h => by have := HLIN.out h; omega).symm), pV.tr hq⟩)
      have h13i : (x.bytes.l.length : Int) ≤ 131072 := by omega
      have h13d : decide ((131072 : Int) < (x.bytes.l.length : Int)) = false := decide_eq_false (by omega)
      go_wp2_with (refine wl_cells_want (by kernel_rfl) 47 _ rfl X 10 rfl [I64 x.base.index, I64 x.base.term, .slice x.base.cfg.v.a x.base.cfg.v.l.length x.base.cfg.v.c, .slice x.base.cfg.o.a x.base.cfg.o.l.length x.base.cfg.o.c, .slice x.base.cfg.l.a x.base.cfg.l.l.length x.base.cfg.l.c, .slice x.base.cfg.w.a x.base.cfg.w.l.length x.base.cfg.w.c] _ (Blk.cells_in (l := [U8V x.kind, I64 x.group, I64 x.src, I64 x.dst, I64 x.term, I64 x.index, I64 x.logt, I64 x.commit, .bool x.ok, .slice x.ents.a x.ents.l.length x.ents.c, I64 x.base.index, I64 x.base.term, .slice x.base.cfg.v.a x.base.cfg.v.l.length x.base.cfg.v.c, .slice x.base.cfg.o.a x.base.cfg.o.l.length x.base.cfg.o.c, .slice x.base.cfg.l.a x.base.cfg.l.l.length x.base.cfg.l.c, .slice x.base.cfg.w.a x.base.cfg.w.l.length x.base.cfg.w.c, I64 x.size, I64 x.at_, I64 x.tag, .slice x.bytes.a x.bytes.l.length x.bytes.c]) b2 10 6) Tryz.underlying47 rfl (by kernel_rfl) ?_)
      have hlin : ((1 ≤ x.kind ∧ x.kind ≤ 8) ∧ (0 ≤ x.group ∧ x.group ≤ 4) ∧ (1 ≤ x.src ∧ x.src ≤ 5) ∧ (1 ≤ x.dst ∧ x.dst ≤ 5)) ∧ (0 ≤ x.tag ∧ x.tag ≤ 4611686018427387903) ∧ x.ents.l.length ≤ 30 ∧ x.bytes.l.length ≤ 131072 := by omega
      have HL2 := Lib.hid hlin
      clear hlin
      refine (HZB.out _ hq).mono ?_
      rintro e w2 ⟨rfl, q2⟩
      have Q2 := hq.tr q2
      cases db with
      | false =>
        go_wp2_with fail
        go_ret
        exact ⟨ret_eq (congrArg Value.bool (Bool.eq_false_iff.2 fun h => by have := HBAS.out h; cases this).symm), pV.tr Q2⟩
      | true =>
        have b3 := b2.fr q2 (fun h => h)
        have HALL2 := Lib.hid (HALL.out HB2.out HL2.out rfl)
        clear HALL b2 k18 k0 k1 k2 k3 k9 k19
        go_wp2_with fail
        go_loopw [5] (fun i wr => RRightE V x i wr) (fun i _ => x.ents.l.length - (intOf i).toNat)
        case atStart => exact ⟨0, Nat.zero_le _, rfl, fun _ _ h => by omega, Q2⟩
        case round =>
          clear hq q2
          obtain ⟨k, hk, rfl, hb, hq⟩ := hrel
          have HB := Lib.hid hb
          clear hb
          have b4 : Blk wr X 50 #[U8V x.kind, I64 x.group, I64 x.src, I64 x.dst, I64 x.term, I64 x.index, I64 x.logt, I64 x.commit, .bool x.ok, .slice x.ents.a x.ents.l.length x.ents.c, I64 x.base.index, I64 x.base.term, .slice x.base.cfg.v.a x.base.cfg.v.l.length x.base.cfg.v.c, .slice x.base.cfg.o.a x.base.cfg.o.l.length x.base.cfg.o.c, .slice x.base.cfg.l.a x.base.cfg.l.l.length x.base.cfg.l.c, .slice x.base.cfg.w.a x.base.cfg.w.l.length x.base.cfg.w.c, I64 x.size, I64 x.at_, I64 x.tag, .slice x.bytes.a x.bytes.l.length x.bytes.c] := b1x.fr hq (fun h => h)
          have kk9 : wr.cell? ⟨X, 9, none⟩ = some (.slice x.ents.a x.ents.l.length x.ents.c) := by simpa using b4.cell 9
          by_cases hlt : k < x.ents.l.length
          · obtain ⟨b, o, hA, _, _, hc⟩ := ((HEI.out.nw (pV.tr hq)).sl).ent hlt
            have hi0 : (k : Int) < (x.ents.l.length : Int) := by omega
            have hei := (HEE.out _ (List.getElem_mem hlt)).nw (pV.tr hq)
            have hez := HEZ.out _ (List.getElem_mem hlt)
            have hnx : entOkM x.ents.l[k] = true → RRightE V x (.int .i64 ((k : Int) + 1)) wr := fun h0 => ⟨k + 1, hlt, by go_num, fun j hj hjk => by
              by_cases e : j < k
              · exact HB.out j hj e
              · obtain rfl : j = k := by omega
                exact h0, hq⟩
            have hno : r = true → entOkM x.ents.l[k] = true := fun h => HENT.out h k hlt
            obtain ⟨y, hy⟩ : ∃ y, x.ents.l[k] = y := ⟨_, rfl⟩
            rw [hy] at hc hei hez hnx hno
            have hcon := rent wr F y hei hez
            have hcon : Calls Tryz.prog 132 #[.agg #[I64 y.term, U8V y.kind, .slice y.cmd.a y.cmd.l.length y.cmd.c, .slice y.cfg.v.a y.cfg.v.l.length y.cfg.v.c, .slice y.cfg.o.a y.cfg.o.l.length y.cfg.o.c, .slice y.cfg.l.a y.cfg.l.l.length y.cfg.l.c, .slice y.cfg.w.a y.cfg.w.l.length y.cfg.w.c]] wr fun e w' => e = .returned (.bool (entOkM y)) ∧ Nw wr w' := hcon
            obtain ⟨de, hde⟩ : ∃ d, entOkM y = d := ⟨_, rfl⟩
            rw [hde] at hcon hnx hno
            have HC := Lib.hid hcon
            have HNX := Lib.hid hnx
            have HNO := Lib.hid hno
            rw [hA] at kk9
            clear hcon hnx hno hei hez hy hde hA
            go_wp2_with (refine wl_load_cells rfl 87 _ rfl b (o + k * 7) rfl _ _ hc Tryz.underlying87 rfl (by kernel_rfl) ?_)
            refine HC.out.mono ?_
            rintro e w5 ⟨rfl, q5⟩
            cases de with
            | false =>
              go_wp2_with fail
              go_ret
              exact ⟨ret_eq (congrArg Value.bool (Bool.eq_false_iff.2 fun h => by have := HNO.out h; cases this).symm), pV.tr (hq.tr q5)⟩
            | true =>
              go_wp2_with fail
              go_roundw
              case rel =>
                obtain ⟨kk, a1, a2, a3, a4⟩ := HNX.out (by first | rfl | trivial)
                first | exact ⟨kk, a1, a2, a3, hq.tr q5⟩ | ((repeat apply Exists.intro); exact ⟨⟨kk, a1, a2, a3, hq.tr q5⟩, rfl⟩)
              case measure => simp [intOf]; omega
          · obtain rfl : x.ents.l.length = k := by omega
            go_wp2_with fail
            go_ret
            exact ⟨ret_eq (congrArg Value.bool (HALL2.out (fun j hj => HB.out j hj hj)).symm), pV.tr hq⟩
end Go.Proofs.YtippdjaakcgeoaaGreat
