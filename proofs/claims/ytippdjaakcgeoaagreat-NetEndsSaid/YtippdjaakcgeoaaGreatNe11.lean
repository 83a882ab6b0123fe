/- Lemmas of the walks: DnB, DnC, DnD. (Laid together by shake.py.) -/
import Derived.Test.YtippdjaakcgeoaaGreatNe04
import Derived.Test.YtippdjaakcgeoaaGreatNe07
import Derived.Test.YtippdjaakcgeoaaGreatNe10
set_option linter.unusedVariables false
set_option linter.unusedSimpArgs false
namespace Go.Proofs.YtippdjaakcgeoaaGreat
open Go Go.RowKit
set_option linter.unusedVariables false
set_option linter.unusedSimpArgs false

theorem lets_slD {w w' : World} {g : Nat} (xs : List LetM) (hg : g = w.heap.size) (hw : w' = w.alloc (.cells (xs.map letL).flatten.toArray 50)) : Nw w w' ∧ Sl w' (· = g) (some ⟨g, 0, none⟩) (letsC xs) := by
  subst hg
  subst hw
  refine ⟨(Fr.refl (fun _ => False) w).alloc _, ?_⟩
  have h := (Blk.new w 50 (xs.map letL).flatten.toArray).sl 0 (xs.map letL).flatten.length
  rw [List.drop_zero, List.take_of_length_le (by simp)] at h
  exact h
theorem lnk_snoc (L : List LetF) (x : LetF) (n : Nm) : lnk (L ++ [x]) n = if (x.src, x.dst) = n then lnk L n ++ [x] else lnk L n := by
  rw [lnk_append]
  split
  · rename_i h
    rw [lnk_self (l := [x]) (fun y hy => by rw [List.mem_singleton.1 hy]; exact h)]
  · rename_i h
    rw [lnk_other (l := [x]) (n := (x.src, x.dst)) (fun y hy => by rw [List.mem_singleton.1 hy]) (fun e => h e.symm), List.append_nil]
/-- Which of a row are not on a link. -/
def offM (l : List LetM) (n : Nm) : List LetM := l.filter fun x => !decide ((x.src, x.dst) = n)
theorem offM_x (l : List LetM) (n : Nm) : (offM l n).map LetM.x = offL (l.map LetM.x) n := by
  unfold offM offL
  rw [List.filter_map]
  rfl
theorem offM_snoc (l : List LetM) (x : LetM) (n : Nm) : offM (l ++ [x]) n = if (x.src, x.dst) = n then offM l n else offM l n ++ [x] := by
  unfold offM
  rw [List.filter_append]
  split
  · rename_i h
    simp [h]
  · rename_i h
    simp [h]
theorem offM_le (l : List LetM) (n : Nm) : (offM l n).length ≤ l.length := List.length_filter_le _ _
theorem offM_mem {l : List LetM} {n : Nm} {x : LetM} (h : x ∈ offM l n) : x ∈ l := (List.mem_filter.1 h).1
def dwaitR (w : World) (l : List LetM) (n : Nm) (v i : Value) (wr : World) : Prop :=
  ∃ (k : Nat) (ys : List LetM) (B : Option Addr) (c : Nat), k ≤ l.length ∧ i = .int .i64 k ∧ v = .slice B ys.length c ∧ ys.map LetM.x = lnk ((l.take k).map LetM.x) n ∧ ys.length ≤ k ∧ Own wr 50 20 B ys.length c (letsC ys) ∧ (∀ y ∈ ys, LetIn wr (fun j => Since w j ∧ ¬ inA B j) y) ∧ (∀ y ∈ ys, LetSz y) ∧ Nw w wr ∧ ∀ j, inA B j → w.heap.size ≤ j
set_option maxRecDepth 100000 in
set_option maxHeartbeats 8000000 in
theorem dWaiting_any (w : World) (O I : Nat → Prop) (D : DocM) (h : IsDoc w O I D) (hsz : D.r.l.length ≤ 100000000) (a b : Int) :
    Calls Tryz.prog 59 #[.pointer (some ⟨D.g, 0, none⟩), I64 a, I64 b] w fun e w' => ∃ A c ys, e = .returned (.slice A ys.length c) ∧ ys.map LetM.x = lnk D.L (a, b) ∧ Own w' 50 20 A ys.length c (letsC ys) ∧ (∀ y ∈ ys, LetIn w' (fun j => Since w j ∧ ¬ inA A j) y) ∧ (∀ y ∈ ys, LetSz y) ∧ Nw w w' ∧ ∀ k, inA A k → w.heap.size ≤ k := by
  obtain ⟨g, ⟨A0, c0, l⟩⟩ := D
  obtain ⟨hb, ho, hba, hea, hz, hog, hdis, hol, hil⟩ := h
  dsimp only at hb ho hba hea hz hog hsz ⊢
  have hsl := ho.sl
  have HEA := Lib.hid hea
  have HZ := Lib.hid hz
  clear hea hz ho hba hog hdis hol hil
  go_enter Tryz.func59, Tryz.ntmps59
  go_wp2_with fail
  go_loopw [7, 8] (fun v i wr => dwaitR w l (a, b) v i wr) (fun _ i _ => l.length - (intOf i).toNat)
  case atStart => exact ⟨0, [], none, 0, Nat.zero_le _, rfl, rfl, rfl, Nat.zero_le _, Own.nil _ _ _, (by intro y hy; cases hy), (by intro y hy; cases hy), Fr.refl _ _, fun k hk => (inA_none k hk).elim⟩
  case round =>
    obtain ⟨k, ys, B, c2, hk, rfl, rfl, ht, hyk, ho, hys, hyz, hq, hB⟩ := hrel
    have HT := Lib.hid ht
    have HYS := Lib.hid hys
    have HYZ := Lib.hid hyz
    clear ht hys hyz
    have g0 : wr.cell? ⟨g, 0, none⟩ = some (.slice A0 l.length c0) := by simpa using (hb.fr hq (fun h => h)).cell 0
    by_cases hlt : k < l.length
    · have hi0 : (k : Int) < (l.length : Int) := by omega
      obtain ⟨b1, o1, rfl, _, _, hc⟩ := (hsl.fr hq (fun _ _ h => h)).let_ hlt
      have xi := (HEA.out _ (List.getElem_mem hlt)).nw hq
      have xz := HZ.out _ (List.getElem_mem hlt)
      obtain ⟨x, hx⟩ : ∃ x, l[k] = x := ⟨_, rfl⟩
      rw [hx] at hc xi xz
      have HX := Lib.hid hx
      clear hx
      have c2' : wr.cell? ⟨b1, o1 + k * 20 + 2, none⟩ = some (I64 x.src) := hc 2 _ rfl
      have c3' : wr.cell? ⟨b1, o1 + k * 20 + 3, none⟩ = some (I64 x.dst) := hc 3 _ rfl
      have HC := Lib.hid hc
      clear hc
      have hsn : (l.take (k + 1)).map LetM.x = (l.take k).map LetM.x ++ [x.x] := by rw [List.take_succ_eq_append_getElem hlt, HX.out, List.map_append, List.map_singleton]
      have HSN := Lib.hid hsn
      clear hsn
      by_cases hw : (x.src, x.dst) = (a, b)
      · have hw1 : x.src = a := congrArg Prod.fst hw
        have hw2 : x.dst = b := congrArg Prod.snd hw
        rw [hw1] at c2'
        rw [hw2] at c3'
        have HW := Lib.hid hw
        have hcp := copy_let wr I x xi xz
        clear hw hw1 hw2
        go_wp2_with (first | (refine wl_load_cells rfl 50 _ rfl b1 (o1 + k * 20) rfl _ _ HC.out Tryz.underlying50 rfl (by kernel_rfl) ?_) | (go_at_call 64; refine hcp.mono ?_; rintro e w1 ⟨y, rfl, ey, iy, q1⟩; have HEY := Lib.hid ey; clear ey) | (refine wl_build rfl 28 1 _ 20 [letL y] (.agg #[U8V 0, I64 0, I64 0, I64 0, I64 0, I64 0, I64 0, I64 0, .bool false, .slice none 0 0, I64 0, I64 0, .slice none 0 0, .slice none 0 0, .slice none 0 0, .slice none 0 0, I64 0, I64 0, I64 0, .slice none 0 0]) rfl Tryz.underlying28 (by kernel_rfl) rfl (by decide) (by decide) (by simp) (by decide) rfl ?_; intro g8 w8 hg8 hw8; obtain ⟨q8, s8⟩ := lets_slD [y] hg8 hw8; have hoa := (ho.fr q1 (fun _ _ h => h)).fr q8 (fun _ _ h => h); have hg9 := hg8; clear hg8 hw8) | (at_builtin; refine wl_append2 rfl _ _ _ rfl 256 (.agg #[U8V 0, I64 0, I64 0, I64 0, I64 0, I64 0, I64 0, I64 0, .bool false, .slice none 0 0, I64 0, I64 0, .slice none 0 0, .slice none 0 0, .slice none 0 0, .slice none 0 0, I64 0, I64 0, I64 0, .slice none 0 0]) Tryz.underlying28 info_let rfl (by decide) rfl hoa rfl s8 (by rfl) (letsC_cell _) (by omega) (by unfold maxLen; omega) ?_; intro B' c' w2 hap))
        go_roundw
        case rel =>
          obtain ⟨o2, q2, n2⟩ := hap.newOwn (hq.tr (q1.tr q8)) hB
          have hfr := hap.fr
          have hin := hap.inA_
          have hBl : ∀ j, inA B j → j < wr.heap.size := ho.lt
          have h1 := q1.size
          have h8 := q8.size
          have hwr := hq.size
          refine ⟨k + 1, ys ++ [y], B', c', hlt, by go_num, by rw [List.length_append]; rfl, ?_, by rw [List.length_append]; show ys.length + 1 ≤ _; omega, by rw [List.length_append, letsC_append]; exact o2, fun z hz => ?_, fun z hz => ?_, q2, n2⟩
          · rw [HSN.out, lnk_snoc, if_pos HW.out, List.map_append, HT.out, List.map_singleton, HEY.out]
          · rcases List.mem_append.1 hz with hz | hz
            · refine ((((HYS.out z hz).mono (F' := fun j => (Since w j ∧ ¬ inA B j) ∧ j < wr.heap.size) (fun j hj hl => ⟨hj, hl⟩)).nw (q1.tr q8)).fr hfr (fun j hj => hj.1.2)).mono fun j hj _ => ⟨hj.1.1, fun hjB => ?_⟩
              rcases hin j hjB with h9 | h9
              · exact hj.1.2 h9
              · have := hj.2; omega
            · rw [List.mem_singleton.1 hz]
              refine (((iy.mono (F' := fun j => Since wr j ∧ j < w1.heap.size) (fun j hj hl => ⟨hj, hl⟩)).nw q8).fr hfr (fun j hj hjB => by have := hBl j hjB; have := hj.1; unfold Since at this; omega)).mono fun j hj _ => ⟨by have := hj.1; unfold Since at this ⊢; omega, fun hjB => ?_⟩
              rcases hin j hjB with h9 | h9
              · have := hBl j h9; have := hj.1; unfold Since at this; omega
              · have := hj.2; omega
          · rcases List.mem_append.1 hz with hz | hz
            · exact HYZ.out z hz
            · rw [List.mem_singleton.1 hz]; exact LetSz.of_eq HEY.out xz
        case measure => simp [intOf]; omega
      · have HW := Lib.hid hw
        by_cases hw1 : x.src = a
        · have hw2 : ¬ x.dst = b := fun e => hw (by rw [hw1, e])
          have hb2 : (x.dst == b) = false := by simp [hw2]
          have hd2 : decide (x.dst = b) = false := decide_eq_false hw2
          clear hw
          go_wp2_with fail
          go_roundw
          case rel => exact ⟨k + 1, ys, B, c2, hlt, by go_num, rfl, by rw [HSN.out, lnk_snoc, if_neg HW.out]; exact HT.out, by omega, ho, HYS.out, HYZ.out, hq, hB⟩
          case measure => simp [intOf]; omega
        · have hb1 : (x.src == a) = false := by simp [hw1]
          have hd1 : decide (x.src = a) = false := decide_eq_false hw1
          clear hw
          go_wp2_with fail
          go_roundw
          case rel => exact ⟨k + 1, ys, B, c2, hlt, by go_num, rfl, by rw [HSN.out, lnk_snoc, if_neg HW.out]; exact HT.out, by omega, ho, HYS.out, HYZ.out, hq, hB⟩
          case measure => simp [intOf]; omega
    · obtain rfl : l.length = k := by omega
      go_wp2_with fail
      go_ret
      have hT := HT.out
      rw [List.take_of_length_le (Nat.le_refl _)] at hT
      exact ⟨B, c2, ys, rfl, hT, ho, HYS.out, HYZ.out, hq, hB⟩
def dsetR (w : World) (l : List LetM) (n : Nm) (v i : Value) (wr : World) : Prop :=
  ∃ (k : Nat) (B : Option Addr) (c : Nat), k ≤ l.length ∧ i = .int .i64 k ∧ v = .slice B (offM (l.take k) n).length c ∧ Own wr 50 20 B (offM (l.take k) n).length c (letsC (offM (l.take k) n)) ∧ Nw w wr ∧ ∀ j, inA B j → w.heap.size ≤ j
/-- A net of the document behind a link set. -/
structure DocSet (w w' : World) (O I F : Nat → Prop) (D D' : DocM) (n : Nm) (ls : List LetM) : Prop where
  g : D'.g = D.g
  l : D'.r.l = offM D.r.l n ++ ls
  blk : Blk w' D.g 30 #[D'.r.v]
  own : Own w' 50 20 D'.r.a D'.r.l.length D'.r.c (letsC D'.r.l)
  new : ∀ k, inA D'.r.a k → w.heap.size ≤ k
  fr : Fr (· = D.g) w w'
set_option maxRecDepth 100000 in
set_option maxHeartbeats 8000000 in
theorem dSet_any (w : World) (O I F : Nat → Prop) (D : DocM) (h : IsDoc w O I D) (hsz : D.r.l.length ≤ 100000000) (a b : Int) (A1 : Option Addr) (c1 : Nat) (ls : List LetM) (h1 : Sl w F A1 (letsC ls)) (hF : ∀ k, F k → k ≠ D.g) (hl1 : ls.length ≤ 100000000) :
    Calls Tryz.prog 106 #[.pointer (some ⟨D.g, 0, none⟩), I64 a, I64 b, .slice A1 ls.length c1] w fun e w' => e = .returned (.tuple #[]) ∧ ∃ D', DocSet w w' O I F D D' (a, b) ls := by
  obtain ⟨g, ⟨A0, c0, l⟩⟩ := D
  obtain ⟨hb, ho, hba, hea, hz, hog, hdis, hol, hil⟩ := h
  dsimp only at hb ho hba hea hz hog hsz hF ⊢
  have hsl := ho.sl
  have hgA := ho.ne_ hb (by decide)
  have hbl := hb.lt
  clear hea hz hba hog hdis hol hil ho
  obtain ⟨n1, hn1⟩ : ∃ n1, n1 = ls.length := ⟨_, rfl⟩
  rw [← hn1] at hl1 ⊢
  have HN1 := Lib.hid hn1
  clear hn1
  go_enter Tryz.func106, Tryz.ntmps106
  go_wp2_with fail
  go_loopw [8, 9] (fun v i wr => dsetR w l (a, b) v i wr) (fun _ i _ => l.length - (intOf i).toNat)
  case atStart => exact ⟨0, none, 0, Nat.zero_le _, rfl, rfl, Own.nil _ _ _, Fr.refl _ _, fun k hk => (inA_none k hk).elim⟩
  case round =>
    obtain ⟨k, B, c2, hk, rfl, rfl, ho, hq, hB⟩ := hrel
    have g0 : wr.cell? ⟨g, 0, none⟩ = some (.slice A0 l.length c0) := by simpa using (hb.fr hq (fun h => h)).cell 0
    have hle := offM_le (l.take k) (a, b)
    have htl : (l.take k).length ≤ k := by rw [List.length_take]; omega
    obtain ⟨ys, hy⟩ : ∃ ys, ys = offM (l.take k) (a, b) := ⟨_, rfl⟩
    rw [← hy] at ho hle ⊢
    have HY := Lib.hid hy
    clear hy
    have hyk : ys.length ≤ k := by omega
    clear hle htl
    by_cases hlt : k < l.length
    · have hi0 : (k : Int) < (l.length : Int) := by omega
      obtain ⟨b1, o1, rfl, _, _, hc⟩ := (hsl.fr hq (fun _ _ h => h)).let_ hlt
      obtain ⟨x, hx⟩ : ∃ x, l[k] = x := ⟨_, rfl⟩
      rw [hx] at hc
      have hsn : l.take (k + 1) = l.take k ++ [x] := by rw [List.take_succ_eq_append_getElem hlt, hx]
      have HSN := Lib.hid hsn
      have c2' : wr.cell? ⟨b1, o1 + k * 20 + 2, none⟩ = some (I64 x.src) := hc 2 _ rfl
      have c3' : wr.cell? ⟨b1, o1 + k * 20 + 3, none⟩ = some (I64 x.dst) := hc 3 _ rfl
      have HC := Lib.hid hc
      clear hx hsn hc
      by_cases hw : (x.src, x.dst) = (a, b)
      · have hw1 : x.src = a := congrArg Prod.fst hw
        have hw2 : x.dst = b := congrArg Prod.snd hw
        rw [hw1] at c2'
        rw [hw2] at c3'
        have HW := Lib.hid hw
        clear hw hw1 hw2
        go_wp2_with fail
        go_roundw
        case rel => 
          have hnx : offM (l.take (k + 1)) (a, b) = ys := by rw [HSN.out, offM_snoc, if_pos HW.out, HY.out]
          exact ⟨k + 1, B, c2, hlt, by go_num, by rw [hnx], by rw [hnx]; exact ho, hq, hB⟩
        case measure => simp [intOf]; omega
      · have HW := Lib.hid hw
        have hap : ∀ w8 w2 B' c', Nw wr w8 → AppTo w8 50 20 B ys.length c2 1 (letsC ys) (letsC [x]) B' c' w2 → dsetR w l (a, b) (.slice B' (ys.length + 1) c') (.int .i64 ((k : Int) + 1)) w2 := fun w8 w2 B' c' q8 hap => by
          obtain ⟨o2, q2, n2⟩ := hap.newOwn (hq.tr q8) hB
          have hnx : offM (l.take (k + 1)) (a, b) = ys ++ [x] := by rw [HSN.out, offM_snoc, if_neg HW.out, HY.out]
          exact ⟨k + 1, B', c', hlt, by go_num, by rw [hnx, List.length_append]; rfl, by rw [hnx, List.length_append, letsC_append]; exact o2, q2, n2⟩
        have HAP := Lib.hid hap
        clear hap
        by_cases hw1 : x.src = a
        · have hw2 : ¬ x.dst = b := fun e => hw (by rw [hw1, e])
          have hb2 : (x.dst != b) = true := by simp [hw2]
          rw [hw1] at c2'
          clear hw hw1
          go_wp2_with (first | (refine wl_load_cells rfl 50 _ rfl b1 (o1 + k * 20) rfl _ _ HC.out Tryz.underlying50 rfl (by kernel_rfl) ?_) | (refine wl_build rfl 28 1 _ 20 [letL x] (.agg #[U8V 0, I64 0, I64 0, I64 0, I64 0, I64 0, I64 0, I64 0, .bool false, .slice none 0 0, I64 0, I64 0, .slice none 0 0, .slice none 0 0, .slice none 0 0, .slice none 0 0, I64 0, I64 0, I64 0, .slice none 0 0]) rfl Tryz.underlying28 (by kernel_rfl) rfl (by decide) (by decide) (by simp) (by decide) rfl ?_; intro g8 w8 hg8 hw8; obtain ⟨q8, s8⟩ := lets_slD [x] hg8 hw8; have hoa := ho.fr q8 (fun _ _ h => h); clear hg8 hw8) | (at_builtin; refine wl_append2 rfl _ _ _ rfl 256 (.agg #[U8V 0, I64 0, I64 0, I64 0, I64 0, I64 0, I64 0, I64 0, .bool false, .slice none 0 0, I64 0, I64 0, .slice none 0 0, .slice none 0 0, .slice none 0 0, .slice none 0 0, I64 0, I64 0, I64 0, .slice none 0 0]) Tryz.underlying28 info_let rfl (by decide) rfl hoa rfl s8 (by rfl) (letsC_cell _) (by omega) (by unfold maxLen; omega) ?_; intro B' c' w2 hap))
          go_roundw
          case rel => have := HAP.out w8 w2 B' c' q8 hap; exact this
          case measure => simp [intOf]; omega
        · have hb1 : (x.src != a) = true := by simp [hw1]
          clear hw
          go_wp2_with (first | (refine wl_load_cells rfl 50 _ rfl b1 (o1 + k * 20) rfl _ _ HC.out Tryz.underlying50 rfl (by kernel_rfl) ?_) | (refine wl_build rfl 28 1 _ 20 [letL x] (.agg #[U8V 0, I64 0, I64 0, I64 0, I64 0, I64 0, I64 0, I64 0, .bool false, .slice none 0 0, I64 0, I64 0, .slice none 0 0, .slice none 0 0, .slice none 0 0, .slice none 0 0, I64 0, I64 0, I64 0, .slice none 0 0]) rfl Tryz.underlying28 (by kernel_rfl) rfl (by decide) (by decide) (by simp) (by decide) rfl ?_; intro g8 w8 hg8 hw8; obtain ⟨q8, s8⟩ := lets_slD [x] hg8 hw8; have hoa := ho.fr q8 (fun _ _ h => h); clear hg8 hw8) | (at_builtin; refine wl_append2 rfl _ _ _ rfl 256 (.agg #[U8V 0, I64 0, I64 0, I64 0, I64 0, I64 0, I64 0, I64 0, .bool false, .slice none 0 0, I64 0, I64 0, .slice none 0 0, .slice none 0 0, .slice none 0 0, .slice none 0 0, I64 0, I64 0, I64 0, .slice none 0 0]) Tryz.underlying28 info_let rfl (by decide) rfl hoa rfl s8 (by rfl) (letsC_cell _) (by omega) (by unfold maxLen; omega) ?_; intro B' c' w2 hap))
          go_roundw
          case rel => have := HAP.out w8 w2 B' c' q8 hap; exact this
          case measure => simp [intOf]; omega
    · obtain rfl : l.length = k := by omega
      have hgn : ∀ j, inA B j → ¬ j = g := fun j hj e => by have := hB j hj; omega
      have hs1 := h1.fr hq (fun _ _ h => h)
      have gb := hb.fr hq (fun h => h)
      have hT : ys = offM l (a, b) := by rw [HY.out, List.take_of_length_le (Nat.le_refl _)]
      have HT := Lib.hid hT
      clear hT
      go_wp2_with (at_builtin; refine wl_append2 rfl _ _ _ rfl 256 (.agg #[U8V 0, I64 0, I64 0, I64 0, I64 0, I64 0, I64 0, I64 0, .bool false, .slice none 0 0, I64 0, I64 0, .slice none 0 0, .slice none 0 0, .slice none 0 0, .slice none 0 0, I64 0, I64 0, I64 0, .slice none 0 0]) Tryz.underlying28 info_let rfl (by decide) rfl ho rfl hs1 (by rw [letsC_len, HN1.out]) (letsC_cell _) (by omega) (by unfold maxLen; omega) ?_; intro B' c' w2 hap; obtain ⟨o2, q2, n2⟩ := hap.newOwn hq hB; have gb2 := hb.fr q2 (fun h => h); have g2 : w2.cell? ⟨g, 0, none⟩ = some (.slice A0 l.length c0) := (by simpa using gb2.cell 0); have f2 := gb2.frozen 0)
      go_end0
      have gb3 := gb2.set_ 0 (.slice B' (ys.length + n1) c')
      have hlen : (ys ++ ls).length = ys.length + n1 := by rw [List.length_append, HN1.out]
      refine ⟨rfl, ⟨g, ⟨B', c', ys ++ ls⟩⟩, rfl, by rw [HT.out], by show Blk _ g _ #[.slice B' (ys ++ ls).length c']; rw [hlen]; exact gb3, ?_, n2, Fr.set1 (g := g) (Nw.on q2) 0 _⟩
      show Own _ 50 20 B' (ys ++ ls).length c' (letsC (ys ++ ls))
      rw [hlen, letsC_append]
      exact o2.setCell (fun hj => by have := n2 g hj; omega) _
end Go.Proofs.YtippdjaakcgeoaaGreat

namespace Go.Proofs.YtippdjaakcgeoaaGreat
open Go Go.RowKit
set_option linter.unusedVariables false
set_option linter.unusedSimpArgs false

/-- What a net of the document is behind a link set. -/
theorem DocSet.doc {w w' : World} {O I F J : Nat → Prop} {D D' : DocM} {n : Nm} {ls : List LetM} (h : IsDoc w O I D) (s : DocSet w w' O I F D D' n ls) (hJ : ∀ k, J k → k < w.heap.size ∧ ¬ O k) (he : ∀ x ∈ ls, LetIn w J x) (hz : ∀ x ∈ ls, LetSz x) :
    IsDoc w' (fun k => O k ∨ inA D'.r.a k) (fun k => I k ∨ J k) D' ∧ D'.L = setD D.L n (ls.map LetM.x) ∧ Fr O w w' := by
  have hs := s.fr.size
  have hIg : ∀ k, I k → ¬ k = D.g := fun k hk e => h.dis _ h.og (e ▸ hk)
  have hJg : ∀ k, J k → ¬ k = D.g := fun k hk e => (hJ k hk).2 (e ▸ h.og)
  refine ⟨⟨by rw [s.g]; exact s.blk, s.own, fun k hk => .inr hk, fun x hx => ?_, fun x hx => ?_, by rw [s.g]; exact .inl h.og, fun k h1 h2 => ?_, fun k h1 => ?_, fun k h1 => ?_⟩, ?_, s.fr.mono fun k hk => .inl (by rw [hk]; exact h.og)⟩
  · rw [s.l] at hx
    rcases List.mem_append.1 hx with hx | hx
    · exact ((h.each x (offM_mem hx)).fr s.fr hIg).mono fun k hk _ => .inl hk
    · exact ((he x hx).fr s.fr hJg).mono fun k hk _ => .inr hk
  · rw [s.l] at hx
    rcases List.mem_append.1 hx with hx | hx
    · exact h.sz x (offM_mem hx)
    · exact hz x hx
  · rcases h1 with h1 | h1 <;> rcases h2 with h2 | h2
    · exact h.dis k h1 h2
    · exact (hJ k h2).2 h1
    · have := s.new k h1; have := h.il k h2; omega
    · have := s.new k h1; have := (hJ k h2).1; omega
  · rcases h1 with h1 | h1
    · have := h.ol k h1; omega
    · exact s.own.lt k h1
  · rcases h1 with h1 | h1
    · have := h.il k h1; omega
    · have := (hJ k h1).1; omega
  · show D'.r.l.map LetM.x = _
    rw [s.l, List.map_append, offM_x]
    rfl
/-- A list of letters behind its first. -/
theorem lets_tail {w : World} {F : Nat → Prop} {A : Option Addr} {cap : Nat} {x : LetM} {r : List LetM} (h : Sl w F A (letsC (x :: r))) (hc : (x :: r).length ≤ cap) : Sl w F (cutA A cap 1 20) (letsC r) := by
  have h2 := h.drop (n := (x :: r).length) (m := cap) (s := 20) (l := 1) (letsC_len _) hc (by simp)
  exact h2
theorem under_letsD : Tryz.prog.underlying 28 = some (.slice (Tryz.prog.elem 28)) := by kernel_rfl
theorem size_letsD (w : World) : (sizeOf (Tryz.prog.elem 28)).run Tryz.prog w = .ok 20 w := by kernel_rfl
set_option maxRecDepth 100000 in
set_option maxHeartbeats 4000000 in
theorem dDeliver_none (w : World) (O I : Nat → Prop) (X : DocM) (h : IsDoc w O I X) (hsz : X.r.l.length ≤ 100000000) (a b : Int) (hp : lnk X.L (a, b) = []) :
    Calls Tryz.prog 53 #[.pointer (some ⟨X.g, 0, none⟩), I64 a, I64 b] w fun e w' => e = .returned (.tuple #[.agg (letA letMZ), .bool false]) ∧ Nw w w' := by
  obtain ⟨D, hD⟩ : ∃ D, D = w.heap.size := ⟨_, rfl⟩
  obtain ⟨W0, hW0⟩ : ∃ W, W = w.alloc (.cells #[U8V 0, I64 0, I64 0, I64 0, I64 0, I64 0, I64 0, I64 0, .bool false, .slice none 0 0, I64 0, I64 0, .slice none 0 0, .slice none 0 0, .slice none 0 0, .slice none 0 0, I64 0, I64 0, I64 0, .slice none 0 0] 50) := ⟨_, rfl⟩
  have p0 : Nw w W0 := by rw [hW0]; exact (Fr.refl (fun _ => False) _).alloc _
  have y0 : Blk W0 D 50 #[U8V 0, I64 0, I64 0, I64 0, I64 0, I64 0, I64 0, I64 0, .bool false, .slice none 0 0, I64 0, I64 0, .slice none 0 0, .slice none 0 0, .slice none 0 0, .slice none 0 0, I64 0, I64 0, I64 0, .slice none 0 0] := by rw [hW0, hD]; exact Blk.new _ _ _
  have hN := h.nw p0
  have HD := Lib.hid hD
  have HW0 := Lib.hid hW0
  clear hD hW0
  have hw : Calls Tryz.prog 59 #[.pointer (some ⟨X.g, 0, none⟩), I64 a, I64 b] W0 fun e w' => ∃ A c, e = .returned (.slice A 0 c) ∧ Nw W0 w' := (dWaiting_any W0 O I X hN hsz a b).mono fun e w' h => by
    obtain ⟨A, c, ys, h1, h2, _, _, _, h3, _⟩ := h
    rw [hp] at h2
    rw [List.map_eq_nil_iff.1 h2] at h1
    exact ⟨A, c, h1, h3⟩
  go_enter Tryz.func53, Tryz.ntmps53
  go_upto_region 1 with (fail)
  rw [← HD.out, ← HW0.out]
  go_upto_region 3 with (go_at_call 59; refine hw.mono ?_; rintro e w1 ⟨A1, c1, rfl, q1⟩)
  have y1 := y0.fr q1 (fun h => h)
  have th := Blk.there (l := [U8V 0, I64 0, I64 0, I64 0, I64 0, I64 0, I64 0, I64 0, .bool false, .slice none 0 0, I64 0, I64 0, .slice none 0 0, .slice none 0 0, .slice none 0 0, .slice none 0 0, I64 0, I64 0, I64 0, .slice none 0 0]) y1 0 20 (by show 0 + 20 ≤ 20; omega)
  have one := letA_one letMZ
  obtain ⟨W1, hW1⟩ : ∃ W, W = w1.setCells D 0 [U8V 0, I64 0, I64 0, I64 0, I64 0, I64 0, I64 0, I64 0, .bool false, .slice none 0 0, I64 0, I64 0, .slice none 0 0, .slice none 0 0, .slice none 0 0, .slice none 0 0, I64 0, I64 0, I64 0, .slice none 0 0] := ⟨_, rfl⟩
  have y2 : Blk W1 D 50 #[U8V 0, I64 0, I64 0, I64 0, I64 0, I64 0, I64 0, I64 0, .bool false, .slice none 0 0, I64 0, I64 0, .slice none 0 0, .slice none 0 0, .slice none 0 0, .slice none 0 0, I64 0, I64 0, I64 0, .slice none 0 0] := by rw [hW1]; exact Blk.setCells (l := [U8V 0, I64 0, I64 0, I64 0, I64 0, I64 0, I64 0, I64 0, .bool false, .slice none 0 0, I64 0, I64 0, .slice none 0 0, .slice none 0 0, .slice none 0 0, .slice none 0 0, I64 0, I64 0, I64 0, .slice none 0 0]) y1 0 [U8V 0, I64 0, I64 0, I64 0, I64 0, I64 0, I64 0, I64 0, .bool false, .slice none 0 0, I64 0, I64 0, .slice none 0 0, .slice none 0 0, .slice none 0 0, .slice none 0 0, I64 0, I64 0, I64 0, .slice none 0 0]
  have m1 : Fr (· = D) w1 W1 := by rw [hW1]; exact (Fr.refl (· = D) _).setCells _ _
  have Q1 : Nw w W1 := (p0.tr q1).new m1 (fun b hb => by have := HD.out; omega)
  have HW1 := Lib.hid hW1
  clear hW1 m1
  go_wp2_with (refine wpList_store_mid rfl 50 _ _ rfl D 0 #[U8V 0, I64 0, I64 0, I64 0, I64 0, I64 0, I64 0, I64 0, .bool false, .slice none 0 0, I64 0, I64 0, .slice none 0 0, .slice none 0 0, .slice none 0 0, .slice none 0 0, I64 0, I64 0, I64 0, .slice none 0 0] rfl rfl th (by kernel_rfl) one ?_; rw [← HW1.out])
  refine bodyPost_ret (v := .tuple #[.agg #[U8V 0, I64 0, I64 0, I64 0, I64 0, I64 0, I64 0, I64 0, .bool false, .slice none 0 0, I64 0, I64 0, .slice none 0 0, .slice none 0 0, .slice none 0 0, .slice none 0 0, I64 0, I64 0, I64 0, .slice none 0 0], .bool false]) ?_ rfl ?_
  · exact results_cell_tmp_row rfl _ _ D 50 _ (0, 0) _ _ rfl rfl y2 Tryz.underlying50 rfl (by kernel_rfl)
  exact ⟨rfl, Q1⟩
set_option maxRecDepth 100000 in
set_option maxHeartbeats 8000000 in
theorem dDeliver_some (w : World) (O I : Nat → Prop) (X : DocM) (h : IsDoc w O I X) (hsz : X.r.l.length ≤ 100000000) (a b : Int) {y : LetF} {l : List LetF} (hp : lnk X.L (a, b) = y :: l) :
    Calls Tryz.prog 53 #[.pointer (some ⟨X.g, 0, none⟩), I64 a, I64 b] w fun e w' => ∃ (x : LetM) (O' I' : Nat → Prop) (X' : DocM), e = .returned (.tuple #[.agg (letA x), .bool true]) ∧ x.x = y ∧ LetIn w' I' x ∧ LetSz x ∧ IsDoc w' O' I' X' ∧ X'.g = X.g ∧ X'.L = setD X.L (a, b) l ∧ Fr O w w' ∧ (∀ k, O' k → O k ∨ w.heap.size ≤ k) ∧ ∀ k, I' k → I k ∨ w.heap.size ≤ k := by
  obtain ⟨D, hD⟩ : ∃ D, D = w.heap.size := ⟨_, rfl⟩
  obtain ⟨W0, hW0⟩ : ∃ W, W = w.alloc (.cells #[U8V 0, I64 0, I64 0, I64 0, I64 0, I64 0, I64 0, I64 0, .bool false, .slice none 0 0, I64 0, I64 0, .slice none 0 0, .slice none 0 0, .slice none 0 0, .slice none 0 0, I64 0, I64 0, I64 0, .slice none 0 0] 50) := ⟨_, rfl⟩
  have p0 : Nw w W0 := by rw [hW0]; exact (Fr.refl (fun _ => False) _).alloc _
  have y0 : Blk W0 D 50 #[U8V 0, I64 0, I64 0, I64 0, I64 0, I64 0, I64 0, I64 0, .bool false, .slice none 0 0, I64 0, I64 0, .slice none 0 0, .slice none 0 0, .slice none 0 0, .slice none 0 0, I64 0, I64 0, I64 0, .slice none 0 0] := by rw [hW0, hD]; exact Blk.new _ _ _
  have hN := h.nw p0
  have HD := Lib.hid hD
  have HW0 := Lib.hid hW0
  clear hD hW0
  have hw : Calls Tryz.prog 59 #[.pointer (some ⟨X.g, 0, none⟩), I64 a, I64 b] W0 fun e w' => ∃ A c x r n, e = .returned (.slice A n c) ∧ n = r.length + 1 ∧ x.x = y ∧ r.map LetM.x = l ∧ Own w' 50 20 A n c (letsC (x :: r)) ∧ (∀ y ∈ x :: r, LetIn w' (fun j => Since W0 j ∧ ¬ inA A j) y) ∧ (∀ y ∈ x :: r, LetSz y) ∧ Nw W0 w' ∧ (∀ k, inA A k → W0.heap.size ≤ k) ∧ n ≤ 100000000 := (dWaiting_any W0 O I X hN hsz a b).mono fun e w' h => by
    obtain ⟨A, c, ys, h1, h2, h3, h4, h5, h6, h7⟩ := h
    have h8 := lnk_le X.L (a, b)
    rw [← h2, List.length_map, List.length_map] at h8
    rw [hp] at h2
    cases ys with
    | nil => cases h2
    | cons x r =>
      rw [List.map_cons] at h2
      injection h2 with e1 e2
      exact ⟨A, c, x, r, (x :: r).length, h1, rfl, e1, e2, h3, h4, h5, h6, h7, by omega⟩
  have hgw := h.blk.lt
  have hOw := h.ol
  have hIw := h.il
  have hpw := p0.size
  clear hp
  go_enter Tryz.func53, Tryz.ntmps53
  go_upto_region 1 with (fail)
  rw [← HD.out, ← HW0.out]
  go_upto_region 2 with (go_at_call 59; refine hw.mono ?_; rintro e w1 ⟨A1, c1, x, r, n, rfl, hnr, ex, er, o1, i1, z1, q1, b1, hn8⟩; have hn1 : 0 < n := (by omega); have HNR := Lib.hid hnr; clear hnr)
  have hne0 : decide ((n : Int) = 0) = false := decide_eq_false (by omega)
  have hne1 : ((n : Int) == 0) = false := by have h0 : ¬ n = 0 := (by omega); simp [h0]
  have hcap := o1.cap_le
  have s1 : ∀ w, (Instr.slice 28 (.slice A1 n c1) (some (.int .i64 1)) none none).run Tryz.prog w = .ok (.slice (cutA A1 c1 1 20) (n - 1) (c1 - 1)) w := slice_l (P := Tryz.prog) 28 under_letsD 20 size_letsD A1 n c1 1 (by omega)
  have N1 := hN.nw q1
  have hts : Sl w1 (fun k => W0.heap.size ≤ k) (cutA A1 c1 1 20) (letsC r) := (lets_tail o1.sl (by rw [List.length_cons]; have := HNR.out; omega)).mono fun k hk _ => b1 k hk
  have hset := dSet_any w1 O I (fun k => W0.heap.size ≤ k) X N1 hsz a b (cutA A1 c1 1 20) (c1 - 1) r hts (fun k hk e => by omega) (by have := HNR.out; omega)
  have hrl : r.length = n - 1 := by have := HNR.out; omega
  rw [hrl] at hset
  have hi0 : (0 : Int) < (n : Int) := by omega
  clear hrl
  have ER := Lib.hid er
  have EX := Lib.hid ex
  have I1 := Lib.hid i1
  have Z1 := Lib.hid z1
  clear er ex i1 z1 hw
  go_upto_region 5 with (go_at_call 106; refine hset.mono ?_; rintro e w2 ⟨rfl, X2, hX2⟩)
  obtain ⟨N2, e2, f2⟩ := DocSet.doc (J := fun k => (Since W0 k ∧ ¬ inA A1 k) ∧ k < w1.heap.size) N1 hX2 (fun k hk => ⟨hk.2, fun ho => by have := hOw k ho; have := hk.1.1; unfold Since at this; omega⟩) (fun z hz => (I1.out z (List.mem_cons_of_mem _ hz)).mono fun k hk hl => ⟨hk, hl⟩) (fun z hz => Z1.out z (List.mem_cons_of_mem _ hz))
  have hnew := hX2.new
  have hg2' := hX2.g
  have hq1 := q1.size
  have hfs := f2.size
  have hAO : ∀ k, inA A1 k → ¬ O k := fun k hk ho => by have := b1 k hk; have := hOw k ho; omega
  have so2 := o1.fr f2 hAO
  obtain ⟨g2, o2, hA, _, hg2, hc⟩ := so2.sl.let_ (k := 0) (by simp)
  have hc' : ∀ j u, (letL x)[j]? = some u → w2.cell? ⟨g2, o2 + j, none⟩ = some u := fun j u hu => by have := hc j u hu; simpa using this
  have hDl : D < W0.heap.size := y0.lt
  have hDO : ¬ O D := fun ho => by have := hOw _ ho; have := HD.out; omega
  have y2 := (y0.fr q1 (fun h => h)).fr f2 hDO
  have xi2 := (I1.out x List.mem_cons_self).mono (F' := fun k => (Since W0 k ∧ ¬ inA A1 k) ∧ k < w1.heap.size) (fun k hk hl => ⟨hk, hl⟩)
  have xi3 := xi2.fr f2 (fun k hk ho => by have := hOw k ho; have := hk.1.1; unfold Since at this; omega)
  have th := Blk.there (l := [U8V 0, I64 0, I64 0, I64 0, I64 0, I64 0, I64 0, I64 0, .bool false, .slice none 0 0, I64 0, I64 0, .slice none 0 0, .slice none 0 0, .slice none 0 0, .slice none 0 0, I64 0, I64 0, I64 0, .slice none 0 0]) y2 0 20 (by show 0 + 20 ≤ 20; omega)
  have one := letA_one x
  obtain ⟨W1, hW1⟩ : ∃ W, W = w2.setCells D 0 [U8V x.kind, I64 x.group, I64 x.src, I64 x.dst, I64 x.term, I64 x.index, I64 x.logt, I64 x.commit, .bool x.ok, .slice x.ents.a x.ents.l.length x.ents.c, I64 x.base.index, I64 x.base.term, .slice x.base.cfg.v.a x.base.cfg.v.l.length x.base.cfg.v.c, .slice x.base.cfg.o.a x.base.cfg.o.l.length x.base.cfg.o.c, .slice x.base.cfg.l.a x.base.cfg.l.l.length x.base.cfg.l.c, .slice x.base.cfg.w.a x.base.cfg.w.l.length x.base.cfg.w.c, I64 x.size, I64 x.at_, I64 x.tag, .slice x.bytes.a x.bytes.l.length x.bytes.c] := ⟨_, rfl⟩
  have y3 : Blk W1 D 50 #[U8V x.kind, I64 x.group, I64 x.src, I64 x.dst, I64 x.term, I64 x.index, I64 x.logt, I64 x.commit, .bool x.ok, .slice x.ents.a x.ents.l.length x.ents.c, I64 x.base.index, I64 x.base.term, .slice x.base.cfg.v.a x.base.cfg.v.l.length x.base.cfg.v.c, .slice x.base.cfg.o.a x.base.cfg.o.l.length x.base.cfg.o.c, .slice x.base.cfg.l.a x.base.cfg.l.l.length x.base.cfg.l.c, .slice x.base.cfg.w.a x.base.cfg.w.l.length x.base.cfg.w.c, I64 x.size, I64 x.at_, I64 x.tag, .slice x.bytes.a x.bytes.l.length x.bytes.c] := by rw [hW1]; exact Blk.setCells (l := [U8V 0, I64 0, I64 0, I64 0, I64 0, I64 0, I64 0, I64 0, .bool false, .slice none 0 0, I64 0, I64 0, .slice none 0 0, .slice none 0 0, .slice none 0 0, .slice none 0 0, I64 0, I64 0, I64 0, .slice none 0 0]) y2 0 [U8V x.kind, I64 x.group, I64 x.src, I64 x.dst, I64 x.term, I64 x.index, I64 x.logt, I64 x.commit, .bool x.ok, .slice x.ents.a x.ents.l.length x.ents.c, I64 x.base.index, I64 x.base.term, .slice x.base.cfg.v.a x.base.cfg.v.l.length x.base.cfg.v.c, .slice x.base.cfg.o.a x.base.cfg.o.l.length x.base.cfg.o.c, .slice x.base.cfg.l.a x.base.cfg.l.l.length x.base.cfg.l.c, .slice x.base.cfg.w.a x.base.cfg.w.l.length x.base.cfg.w.c, I64 x.size, I64 x.at_, I64 x.tag, .slice x.bytes.a x.bytes.l.length x.bytes.c]
  have m1 : Fr (· = D) w2 W1 := by rw [hW1]; exact (Fr.refl (· = D) _).setCells _ _
  have Q1 : Fr O w W1 := ((Nw.on (S := O) (p0.tr q1)).tr f2).trans m1 (fun b (hb : b = D) => .inr (by have := HD.out; omega))
  have hDv := HD.out
  have N3 := N2.fr m1 (fun k hk e => by
    rcases hk with hk | hk
    · exact hDO (e ▸ hk)
    · have := hnew k hk; omega) (fun k hk e => by
    rcases hk with hk | hk
    · have := hIw k hk; omega
    · have := hk.1.1; unfold Since at this; omega)
  have X3 := (xi3.fr m1 (fun k hk e => by have := hk.1.1; unfold Since at this; omega)).mono (F' := fun k => I k ∨ (Since W0 k ∧ ¬ inA A1 k) ∧ k < w1.heap.size) (fun k hk _ => .inr hk)
  have HW1 := Lib.hid hW1
  have E2 := Lib.hid e2
  have HA := Lib.hid hA
  clear hW1 m1 e2 xi2 xi3 N2 hX2 hset hc hDv hA
  rw [HA.out]
  go_wp2_with (first | (refine wl_load_cells rfl 50 _ rfl g2 o2 rfl _ _ hc' Tryz.underlying50 rfl (by kernel_rfl) ?_) | (refine wpList_store_mid rfl 50 _ _ rfl D 0 #[U8V x.kind, I64 x.group, I64 x.src, I64 x.dst, I64 x.term, I64 x.index, I64 x.logt, I64 x.commit, .bool x.ok, .slice x.ents.a x.ents.l.length x.ents.c, I64 x.base.index, I64 x.base.term, .slice x.base.cfg.v.a x.base.cfg.v.l.length x.base.cfg.v.c, .slice x.base.cfg.o.a x.base.cfg.o.l.length x.base.cfg.o.c, .slice x.base.cfg.l.a x.base.cfg.l.l.length x.base.cfg.l.c, .slice x.base.cfg.w.a x.base.cfg.w.l.length x.base.cfg.w.c, I64 x.size, I64 x.at_, I64 x.tag, .slice x.bytes.a x.bytes.l.length x.bytes.c] rfl rfl th (by kernel_rfl) one ?_; rw [← HW1.out]))
  refine bodyPost_ret (v := .tuple #[.agg #[U8V x.kind, I64 x.group, I64 x.src, I64 x.dst, I64 x.term, I64 x.index, I64 x.logt, I64 x.commit, .bool x.ok, .slice x.ents.a x.ents.l.length x.ents.c, I64 x.base.index, I64 x.base.term, .slice x.base.cfg.v.a x.base.cfg.v.l.length x.base.cfg.v.c, .slice x.base.cfg.o.a x.base.cfg.o.l.length x.base.cfg.o.c, .slice x.base.cfg.l.a x.base.cfg.l.l.length x.base.cfg.l.c, .slice x.base.cfg.w.a x.base.cfg.w.l.length x.base.cfg.w.c, I64 x.size, I64 x.at_, I64 x.tag, .slice x.bytes.a x.bytes.l.length x.bytes.c], .bool true]) ?_ rfl ?_
  · exact results_cell_tmp_row rfl _ _ D 50 _ (0, 0) _ _ rfl rfl y3 Tryz.underlying50 rfl (by kernel_rfl)
  refine ⟨x, _, _, X2, rfl, EX.out, X3, Z1.out x List.mem_cons_self, N3, hg2', by rw [E2.out, ER.out], Q1, fun k hk => ?_, fun k hk => ?_⟩
  · rcases hk with hk | hk
    · exact .inl hk
    · have := hnew k hk; exact .inr (by omega)
  · rcases hk with hk | hk
    · exact .inl hk
    · have := hk.1.1; unfold Since at this; exact .inr (by omega)
end Go.Proofs.YtippdjaakcgeoaaGreat

namespace Go.Proofs.YtippdjaakcgeoaaGreat
open Go Go.RowKit
set_option linter.unusedVariables false
set_option linter.unusedSimpArgs false

set_option maxRecDepth 100000 in
set_option maxHeartbeats 4000000 in
theorem dLose_of (w : World) (g : Nat) (a b : Int) (d : Bool) (Pst : World → Prop) (hP : ∀ w1 w2, Pst w1 → Nw w1 w2 → Pst w2)
    (hd : Calls Tryz.prog 53 #[.pointer (some ⟨g, 0, none⟩), I64 a, I64 b] w fun e w' => ∃ x, e = .returned (.tuple #[.agg (letA x), .bool d]) ∧ Pst w') :
    Calls Tryz.prog 54 #[.pointer (some ⟨g, 0, none⟩), I64 a, I64 b] w fun e w' => e = .returned (.bool d) ∧ Pst w' := by
  have HP := Lib.hid hP
  clear hP
  go_enter Tryz.func54, Tryz.ntmps54
  go_wp2_with (first | (go_at_call 53; refine hd.mono ?_; rintro e w1 ⟨x, rfl, p1⟩; obtain ⟨D, hD⟩ : ∃ D, D = w1.heap.size := ⟨_, rfl⟩; obtain ⟨V0, hV0⟩ : ∃ V, V = w1.alloc (.cells #[U8V 0, I64 0, I64 0, I64 0, I64 0, I64 0, I64 0, I64 0, .bool false, .slice none 0 0, I64 0, I64 0, .slice none 0 0, .slice none 0 0, .slice none 0 0, .slice none 0 0, I64 0, I64 0, I64 0, .slice none 0 0] 50) := ⟨_, rfl⟩; have q0 : Nw w1 V0 := (by rw [hV0]; exact (Fr.refl (fun _ => False) _).alloc _); have y0 : Blk V0 D 50 #[U8V 0, I64 0, I64 0, I64 0, I64 0, I64 0, I64 0, I64 0, .bool false, .slice none 0 0, I64 0, I64 0, .slice none 0 0, .slice none 0 0, .slice none 0 0, .slice none 0 0, I64 0, I64 0, I64 0, .slice none 0 0] := (by rw [hV0, hD]; exact Blk.new _ _ _); have th := Blk.there (l := [U8V 0, I64 0, I64 0, I64 0, I64 0, I64 0, I64 0, I64 0, .bool false, .slice none 0 0, I64 0, I64 0, .slice none 0 0, .slice none 0 0, .slice none 0 0, .slice none 0 0, I64 0, I64 0, I64 0, .slice none 0 0]) y0 0 20 (by show 0 + 20 ≤ 20; omega); have one := letA_one x; obtain ⟨V1, hV1⟩ : ∃ V, V = V0.setCells D 0 [U8V x.kind, I64 x.group, I64 x.src, I64 x.dst, I64 x.term, I64 x.index, I64 x.logt, I64 x.commit, .bool x.ok, .slice x.ents.a x.ents.l.length x.ents.c, I64 x.base.index, I64 x.base.term, .slice x.base.cfg.v.a x.base.cfg.v.l.length x.base.cfg.v.c, .slice x.base.cfg.o.a x.base.cfg.o.l.length x.base.cfg.o.c, .slice x.base.cfg.l.a x.base.cfg.l.l.length x.base.cfg.l.c, .slice x.base.cfg.w.a x.base.cfg.w.l.length x.base.cfg.w.c, I64 x.size, I64 x.at_, I64 x.tag, .slice x.bytes.a x.bytes.l.length x.bytes.c] := ⟨_, rfl⟩; have m1 : Fr (· = D) V0 V1 := (by rw [hV1]; exact (Fr.refl (· = D) _).setCells _ _); have q1 : Nw w1 V1 := q0.new m1 (fun b hb => by omega); have HD := Lib.hid hD; have HV0 := Lib.hid hV0; have HV1 := Lib.hid hV1; clear hD hV0 hV1 m1 q0 y0) | (rw [← HV0.out, ← HD.out]; refine wpList_store_mid rfl 50 _ _ rfl D 0 #[U8V x.kind, I64 x.group, I64 x.src, I64 x.dst, I64 x.term, I64 x.index, I64 x.logt, I64 x.commit, .bool x.ok, .slice x.ents.a x.ents.l.length x.ents.c, I64 x.base.index, I64 x.base.term, .slice x.base.cfg.v.a x.base.cfg.v.l.length x.base.cfg.v.c, .slice x.base.cfg.o.a x.base.cfg.o.l.length x.base.cfg.o.c, .slice x.base.cfg.l.a x.base.cfg.l.l.length x.base.cfg.l.c, .slice x.base.cfg.w.a x.base.cfg.w.l.length x.base.cfg.w.c, I64 x.size, I64 x.at_, I64 x.tag, .slice x.bytes.a x.bytes.l.length x.bytes.c] rfl rfl th (by kernel_rfl) one ?_; rw [← HV1.out]))
  go_ret
  exact ⟨rfl, HP.out _ _ p1 q1⟩
/-- A letter's row put behind: what Twice leaves. -/
def twD (L : List LetF) (n : Nm) : List LetF × Bool :=
  match lnk L n with
  | [] => (L, false)
  | x :: l => if 40 ≤ (x :: l).length then (L, false) else (setD L n ((x :: l) ++ [x]), true)
set_option maxRecDepth 100000 in
set_option maxHeartbeats 8000000 in
theorem dTwice_any (w : World) (O I : Nat → Prop) (X : DocM) (h : IsDoc w O I X) (hsz : X.r.l.length ≤ 100000000) (a b : Int) :
    Calls Tryz.prog 55 #[.pointer (some ⟨X.g, 0, none⟩), I64 a, I64 b] w fun e w' => e = .returned (.bool (twD X.L (a, b)).2) ∧ ∃ (O' I' : Nat → Prop) (X' : DocM), IsDoc w' O' I' X' ∧ X'.g = X.g ∧ X'.L = (twD X.L (a, b)).1 ∧ Fr O w w' ∧ (∀ k, O' k → O k ∨ w.heap.size ≤ k) ∧ ∀ k, I' k → I k ∨ w.heap.size ≤ k := by
  have hw0 := dWaiting_any w O I X h hsz a b
  have hle := lnk_le X.L (a, b)
  rw [List.length_map] at hle
  have hOw := h.ol
  have hIw := h.il
  by_cases hno : lnk X.L (a, b) = [] ∨ 40 ≤ (lnk X.L (a, b)).length
  · have e1 : twD X.L (a, b) = (X.L, false) := by
      unfold twD
      rcases hno with h0 | h0
      · rw [h0]
      · cases hl : lnk X.L (a, b) with
        | nil => rfl
        | cons x l => simp only []; rw [if_pos (by rw [← hl]; exact h0)]
    rw [e1]
    have hw : Calls Tryz.prog 59 #[.pointer (some ⟨X.g, 0, none⟩), I64 a, I64 b] w fun e w' => ∃ A c n, e = .returned (.slice A n c) ∧ (n = 0 ∨ 40 ≤ n) ∧ Nw w w' := hw0.mono fun e w' h => by
      obtain ⟨A, c, ys, h1, h2, _, _, _, h3, _⟩ := h
      rw [← h2, List.length_map] at hno
      refine ⟨A, c, _, h1, ?_, h3⟩
      rcases hno with h0 | h0
      · rw [List.map_eq_nil_iff.1 h0]; exact .inl rfl
      · exact .inr h0
    clear hw0 hno e1
    go_enter Tryz.func55, Tryz.ntmps55
    go_upto_region 2 with (go_at_call 59; refine hw.mono ?_; rintro e w1 ⟨A1, c1, n, rfl, hn, q1⟩)
    have fin : Nw w w1 := q1
    by_cases hn0 : n = 0
    · subst hn0
      go_wp2_with fail
      go_ret
      exact ⟨rfl, O, I, X, h.nw q1, rfl, rfl, Nw.on q1, fun _ h => .inl h, fun _ h => .inl h⟩
    · have hi : ¬ (n : Int) = 0 := by omega
      have hbz : ((n : Int) == 0) = false := by have h0 : ¬ n = 0 := (by omega); simp [h0]
      have h40 : (40 : Int) ≤ (n : Int) := by omega
      have hd40 : decide ((40 : Int) ≤ (n : Int)) = true := decide_eq_true h40
      go_wp2_with fail
      go_ret
      exact ⟨rfl, O, I, X, h.nw q1, rfl, rfl, Nw.on q1, fun _ h => .inl h, fun _ h => .inl h⟩
  · have hn1 : ¬ lnk X.L (a, b) = [] := fun e => hno (.inl e)
    have hn2 : (lnk X.L (a, b)).length < 40 := by
      rcases Nat.lt_or_ge (lnk X.L (a, b)).length 40 with h0 | h0
      · exact h0
      · exact (hno (.inr h0)).elim
    have hw : Calls Tryz.prog 59 #[.pointer (some ⟨X.g, 0, none⟩), I64 a, I64 b] w fun e w' => ∃ A c x r n, e = .returned (.slice A n c) ∧ n = r.length + 1 ∧ n < 40 ∧ (x :: r).map LetM.x = lnk X.L (a, b) ∧ Own w' 50 20 A n c (letsC (x :: r)) ∧ (∀ y ∈ x :: r, LetIn w' (fun j => Since w j ∧ ¬ inA A j) y) ∧ (∀ y ∈ x :: r, LetSz y) ∧ Nw w w' ∧ (∀ k, inA A k → w.heap.size ≤ k) := hw0.mono fun e w' h => by
      obtain ⟨A, c, ys, h1, h2, h3, h4, h5, h6, h7⟩ := h
      cases ys with
      | nil => exact (hn1 h2.symm).elim
      | cons x r =>
        rw [← h2, List.length_map] at hn2
        exact ⟨A, c, x, r, (x :: r).length, h1, rfl, hn2, h2, h3, h4, h5, h6, h7⟩
    clear hw0 hno hn1 hn2
    obtain ⟨T, hT⟩ : ∃ T, T = twD X.L (a, b) := ⟨_, rfl⟩
    rw [← hT]
    have hT2 : ∀ x r, (x :: r).map LetM.x = lnk X.L (a, b) → r.length + 1 < 40 → T = (setD X.L (a, b) (((x :: r) : List LetM).map LetM.x ++ [x.x]), true) := fun x r h1 h2 => by
      rw [hT]
      unfold twD
      rw [← h1, List.map_cons]
      simp only []
      rw [if_neg (by rw [List.length_cons, List.length_map]; omega)]
    have HT := Lib.hid hT2
    clear hT hT2
    go_enter Tryz.func55, Tryz.ntmps55
    go_upto_region 2 with (go_at_call 59; refine hw.mono ?_; rintro e w1 ⟨A1, c1, x, r, n, rfl, hnr, hn40, er, o1, i1, z1, q1, b1⟩; have hn1 : 0 < n := (by omega); have HNR := Lib.hid hnr; clear hnr)
    have HET := Lib.hid (HT.out x r er (by have := HNR.out; omega))
    have hi : ¬ (n : Int) = 0 := by omega
    have hbz : ((n : Int) == 0) = false := by have h0 : ¬ n = 0 := (by omega); simp [h0]
    have h40 : ¬ (40 : Int) ≤ (n : Int) := by omega
    have hd40 : decide ((40 : Int) ≤ (n : Int)) = false := decide_eq_false h40
    have hi0 : (0 : Int) < (n : Int) := by omega
    obtain ⟨g2, o2, rfl, _, _, hc⟩ := o1.sl.let_ (k := 0) (by simp)
    have hc' : ∀ j u, (letL x)[j]? = some u → w1.cell? ⟨g2, o2 + j, none⟩ = some u := fun j u hu => by have := hc j u hu; simpa using this
    have hcp := copy_let w1 _ x (i1 x List.mem_cons_self) (z1 x List.mem_cons_self)
    have N1 := h.nw q1
    have ER := Lib.hid er
    have I1 := Lib.hid i1
    have Z1 := Lib.hid z1
    have hset : ∀ w5 A5 c5 y, Nw w w5 → Own w5 50 20 A5 (n + 1) c5 (letsC ((x :: r) ++ [y])) → (∀ k, inA A5 k → w.heap.size ≤ k) → Calls Tryz.prog 106 #[.pointer (some ⟨X.g, 0, none⟩), I64 a, I64 b, .slice A5 (n + 1) c5] w5 fun e w' => e = .returned (.tuple #[]) ∧ ∃ D', DocSet w5 w' O I (fun k => w.heap.size ≤ k) X D' (a, b) ((x :: r) ++ [y]) := fun w5 A5 c5 y q5 o5 b5 => by
      have h9 := dSet_any w5 O I (fun k => w.heap.size ≤ k) X (h.nw q5) hsz a b A5 c5 ((x :: r) ++ [y]) (o5.sl.mono fun k hk _ => b5 k hk) (fun k hk e => by have := h.blk.lt; omega) (by rw [List.length_append, List.length_cons]; show r.length + 1 + 1 ≤ _; have := HNR.out; omega)
      have e9 : ((x :: r) ++ [y]).length = n + 1 := by rw [List.length_append, List.length_cons]; show r.length + 1 + 1 = _; have := HNR.out; omega
      rw [e9] at h9
      exact h9
    have HSET := Lib.hid hset
    clear er i1 z1 hw hset hc
    go_wp2_with (first | (refine wl_load_cells rfl 50 _ rfl g2 o2 rfl _ _ hc' Tryz.underlying50 rfl (by kernel_rfl) ?_) | (go_at_call 64; refine hcp.mono ?_; rintro e w2 ⟨y, rfl, ey, iy, q2⟩; have HEY := Lib.hid ey; clear ey) | (refine wl_build rfl 28 1 _ 20 [letL y] (.agg #[U8V 0, I64 0, I64 0, I64 0, I64 0, I64 0, I64 0, I64 0, .bool false, .slice none 0 0, I64 0, I64 0, .slice none 0 0, .slice none 0 0, .slice none 0 0, .slice none 0 0, I64 0, I64 0, I64 0, .slice none 0 0]) rfl Tryz.underlying28 (by kernel_rfl) rfl (by decide) (by decide) (by simp) (by decide) rfl ?_; intro g8 w8 hg8 hw8; obtain ⟨q8, s8⟩ := lets_slD [y] hg8 hw8; have hoa := (o1.fr q2 (fun _ _ h => h)).fr q8 (fun _ _ h => h); clear hg8 hw8) | (at_builtin; refine wl_append2 rfl _ _ _ rfl 256 (.agg #[U8V 0, I64 0, I64 0, I64 0, I64 0, I64 0, I64 0, I64 0, .bool false, .slice none 0 0, I64 0, I64 0, .slice none 0 0, .slice none 0 0, .slice none 0 0, .slice none 0 0, I64 0, I64 0, I64 0, .slice none 0 0]) Tryz.underlying28 info_let rfl (by decide) rfl hoa rfl s8 (by rfl) (letsC_cell _) (by omega) (by unfold maxLen; omega) ?_; intro A5 c5 w5 hap; obtain ⟨o5, q5, n5⟩ := hap.newOwn ((q1.tr q2).tr q8) b1; rw [← letsC_append] at o5) | (go_at_call 106; refine (HSET.out w5 A5 c5 y q5 o5 n5).mono ?_; rintro e w6 ⟨rfl, X6, hX6⟩))
    go_ret
    have h1 := q1.size
    have h2 := q2.size
    have h8 := q8.size
    have h5s := hap.fr.size
    have hin := hap.inA_
    have hA1 : ∀ k, inA (some ⟨g2, o2, none⟩) k → k < w1.heap.size := o1.lt
    obtain ⟨N6, e6, f6⟩ := DocSet.doc (J := fun k => (w.heap.size ≤ k ∧ ¬ inA (some ⟨g2, o2, none⟩) k) ∧ k < w8.heap.size) (h.nw q5) hX6 (fun k hk => ⟨by omega, fun ho => by have := hOw k ho; omega⟩) (fun z hz => by
      rcases List.mem_append.1 hz with hz | hz
      · exact ((((I1.out z hz).nw (q2.tr q8)).mono (F' := fun k => (w.heap.size ≤ k ∧ ¬ inA (some ⟨g2, o2, none⟩) k) ∧ k < w8.heap.size) (fun k hk hl => ⟨hk, hl⟩)).fr hap.fr (fun k hk => hk.1.2))
      · rw [List.mem_singleton.1 hz]
        refine ((iy.nw q8).mono (F' := fun k => (w.heap.size ≤ k ∧ ¬ inA (some ⟨g2, o2, none⟩) k) ∧ k < w8.heap.size) (fun k hk hl => ⟨⟨?_, fun hh => ?_⟩, hl⟩)).fr hap.fr (fun k hk => hk.1.2)
        · unfold Since at hk; omega
        · have := hA1 k hh; unfold Since at hk; omega) (fun z hz => by
      rcases List.mem_append.1 hz with hz | hz
      · exact Z1.out z hz
      · rw [List.mem_singleton.1 hz]; exact LetSz.of_eq HEY.out (Z1.out x List.mem_cons_self))
    refine ⟨by rw [HET.out]; rfl, _, _, X6, N6, hX6.g, by rw [e6, HET.out, List.map_append, List.map_singleton, HEY.out], (Nw.on q5).tr f6, fun k hk => ?_, fun k hk => ?_⟩
    · rcases hk with hk | hk
      · exact .inl hk
      · have := hX6.new k hk; have := q5.size; exact .inr (by omega)
    · rcases hk with hk | hk
      · exact .inl hk
      · exact .inr hk.1.1
set_option maxRecDepth 100000 in
set_option maxHeartbeats 4000000 in
theorem copy_letsH (w : World) (F : Nat → Prop) (A : Option Addr) (c : Nat) (xs : List LetM) (h : Sl w F A (letsC xs)) (e1 : ∀ e ∈ xs, LetIn w F e) (hz : ∀ e ∈ xs, LetSz e) (hsz : xs.length ≤ 100000000) :
    Calls Tryz.prog 52 #[.slice A xs.length c] w fun e w' => ∃ A' c' ys, e = .returned (.slice A' xs.length c') ∧ ys.map LetM.x = xs.map LetM.x ∧ Own w' 50 20 A' xs.length c' (letsC ys) ∧ (∀ y ∈ ys, LetIn w' (fun k => Since w k ∧ ¬ inA A' k) y) ∧ Nw w w' ∧ ∀ k, inA A' k → w.heap.size ≤ k := by
  have HZ := Lib.hid hz
  have E1 := Lib.hid e1
  clear hz e1
  go_enter Tryz.func52, Tryz.ntmps52
  go_wp2_with fail
  go_loopw [3, 4] (fun v i wr => copy_letsR w xs v i wr) (fun _ i _ => xs.length - (intOf i).toNat)
  case atStart => exact ⟨0, [], none, 0, Nat.zero_le _, rfl, rfl, rfl, Own.nil _ _ _, (by intro y hy; cases hy), Fr.refl _ _, fun k hk => (inA_none k hk).elim⟩
  case round =>
    obtain ⟨k, ys, B, c2, hk, rfl, rfl, ht, ho, hys, hq, hB⟩ := hrel
    have HT := Lib.hid ht
    clear ht
    by_cases hlt : k < xs.length
    · obtain ⟨b, o, rfl, _, _, hc⟩ := (h.fr hq (fun _ _ h => h)).let_ hlt
      have hi0 : (k : Int) < (xs.length : Int) := by omega
      have x1 := (E1.out _ (List.getElem_mem hlt)).nw hq
      have z1 := HZ.out _ (List.getElem_mem hlt)
      obtain ⟨x, hx⟩ : ∃ x, xs[k] = x := ⟨_, rfl⟩
      rw [hx] at x1 z1 hc
      have HX := Lib.hid hx
      have HYS := Lib.hid hys
      clear hx hys
      go_wp2_with (refine wl_load_cells rfl 50 _ rfl b (o + k * 20) rfl _ _ hc Tryz.underlying50 rfl (by kernel_rfl) ?_)
      refine (copy_let _ F x x1 z1).mono ?_
      rintro e w1 ⟨y, rfl, ey, iy, q1⟩
      obtain ⟨G, hG⟩ : ∃ G, G = w1.heap.size := ⟨_, rfl⟩
      obtain ⟨V0, hV0⟩ : ∃ V, V = w1.alloc (.cells #[U8V 0, I64 0, I64 0, I64 0, I64 0, I64 0, I64 0, I64 0, .bool false, .slice none 0 0, I64 0, I64 0, .slice none 0 0, .slice none 0 0, .slice none 0 0, .slice none 0 0, I64 0, I64 0, I64 0, .slice none 0 0] 50) := ⟨_, rfl⟩
      have qv0 : Nw w1 V0 := by rw [hV0]; exact (Fr.refl (fun _ => False) w1).alloc _
      have g0 : Blk V0 G 50 #[U8V 0, I64 0, I64 0, I64 0, I64 0, I64 0, I64 0, I64 0, .bool false, .slice none 0 0, I64 0, I64 0, .slice none 0 0, .slice none 0 0, .slice none 0 0, .slice none 0 0, I64 0, I64 0, I64 0, .slice none 0 0] := by rw [hV0, hG]; exact Blk.new _ _ _
      obtain ⟨V1, hV1⟩ : ∃ V, V = V0.setCells G 0 [U8V y.kind, I64 y.group, I64 y.src, I64 y.dst, I64 y.term, I64 y.index, I64 y.logt, I64 y.commit, .bool y.ok, .slice y.ents.a y.ents.l.length y.ents.c, I64 y.base.index, I64 y.base.term, .slice y.base.cfg.v.a y.base.cfg.v.l.length y.base.cfg.v.c, .slice y.base.cfg.o.a y.base.cfg.o.l.length y.base.cfg.o.c, .slice y.base.cfg.l.a y.base.cfg.l.l.length y.base.cfg.l.c, .slice y.base.cfg.w.a y.base.cfg.w.l.length y.base.cfg.w.c, I64 y.size, I64 y.at_, I64 y.tag, .slice y.bytes.a y.bytes.l.length y.bytes.c] := ⟨_, rfl⟩
      have g1 : Blk V1 G 50 #[U8V y.kind, I64 y.group, I64 y.src, I64 y.dst, I64 y.term, I64 y.index, I64 y.logt, I64 y.commit, .bool y.ok, .slice y.ents.a y.ents.l.length y.ents.c, I64 y.base.index, I64 y.base.term, .slice y.base.cfg.v.a y.base.cfg.v.l.length y.base.cfg.v.c, .slice y.base.cfg.o.a y.base.cfg.o.l.length y.base.cfg.o.c, .slice y.base.cfg.l.a y.base.cfg.l.l.length y.base.cfg.l.c, .slice y.base.cfg.w.a y.base.cfg.w.l.length y.base.cfg.w.c, I64 y.size, I64 y.at_, I64 y.tag, .slice y.bytes.a y.bytes.l.length y.bytes.c] := by rw [hV1]; exact Blk.setCells (l := [U8V 0, I64 0, I64 0, I64 0, I64 0, I64 0, I64 0, I64 0, .bool false, .slice none 0 0, I64 0, I64 0, .slice none 0 0, .slice none 0 0, .slice none 0 0, .slice none 0 0, I64 0, I64 0, I64 0, .slice none 0 0]) g0 0 [U8V y.kind, I64 y.group, I64 y.src, I64 y.dst, I64 y.term, I64 y.index, I64 y.logt, I64 y.commit, .bool y.ok, .slice y.ents.a y.ents.l.length y.ents.c, I64 y.base.index, I64 y.base.term, .slice y.base.cfg.v.a y.base.cfg.v.l.length y.base.cfg.v.c, .slice y.base.cfg.o.a y.base.cfg.o.l.length y.base.cfg.o.c, .slice y.base.cfg.l.a y.base.cfg.l.l.length y.base.cfg.l.c, .slice y.base.cfg.w.a y.base.cfg.w.l.length y.base.cfg.w.c, I64 y.size, I64 y.at_, I64 y.tag, .slice y.bytes.a y.bytes.l.length y.bytes.c]
      have m1 : Fr (· = G) V0 V1 := by rw [hV1]; exact (Fr.refl (· = G) _).setCells _ _
      have qv1 : Nw w1 V1 := qv0.new m1 (fun b hb => by omega)
      have hth := Blk.there (l := [U8V 0, I64 0, I64 0, I64 0, I64 0, I64 0, I64 0, I64 0, .bool false, .slice none 0 0, I64 0, I64 0, .slice none 0 0, .slice none 0 0, .slice none 0 0, .slice none 0 0, I64 0, I64 0, I64 0, .slice none 0 0]) g0 0 20 (by show 0 + 20 ≤ 20; omega)
      have hone := letA_one y
      have hcy := letL_cell y
      have HG := Lib.hid hG
      have HV0 := Lib.hid hV0
      have HV1 := Lib.hid hV1
      have HEY := Lib.hid ey
      clear hG hV0 hV1 hc m1 g0 qv0 ey
      go_upto_region 6 with (rw [← HG.out, ← HV0.out]; refine wpList_store_mid rfl 50 _ _ rfl G 0 #[U8V y.kind, I64 y.group, I64 y.src, I64 y.dst, I64 y.term, I64 y.index, I64 y.logt, I64 y.commit, .bool y.ok, .slice y.ents.a y.ents.l.length y.ents.c, I64 y.base.index, I64 y.base.term, .slice y.base.cfg.v.a y.base.cfg.v.l.length y.base.cfg.v.c, .slice y.base.cfg.o.a y.base.cfg.o.l.length y.base.cfg.o.c, .slice y.base.cfg.l.a y.base.cfg.l.l.length y.base.cfg.l.c, .slice y.base.cfg.w.a y.base.cfg.w.l.length y.base.cfg.w.c, I64 y.size, I64 y.at_, I64 y.tag, .slice y.bytes.a y.bytes.l.length y.bytes.c] rfl rfl hth (by kernel_rfl) hone ?_)
      rw [← HV1.out]
      have ho1 := (ho.fr q1 (fun _ _ h => h)).fr qv1 (fun _ _ h => h)
      have sln := sl_new V1 50 [U8V y.kind, I64 y.group, I64 y.src, I64 y.dst, I64 y.term, I64 y.index, I64 y.logt, I64 y.commit, .bool y.ok, .slice y.ents.a y.ents.l.length y.ents.c, I64 y.base.index, I64 y.base.term, .slice y.base.cfg.v.a y.base.cfg.v.l.length y.base.cfg.v.c, .slice y.base.cfg.o.a y.base.cfg.o.l.length y.base.cfg.o.c, .slice y.base.cfg.l.a y.base.cfg.l.l.length y.base.cfg.l.c, .slice y.base.cfg.w.a y.base.cfg.w.l.length y.base.cfg.w.c, I64 y.size, I64 y.at_, I64 y.tag, .slice y.bytes.a y.bytes.l.length y.bytes.c] _ rfl
      have qa : Nw w1 (V1.alloc (.cells #[U8V y.kind, I64 y.group, I64 y.src, I64 y.dst, I64 y.term, I64 y.index, I64 y.logt, I64 y.commit, .bool y.ok, .slice y.ents.a y.ents.l.length y.ents.c, I64 y.base.index, I64 y.base.term, .slice y.base.cfg.v.a y.base.cfg.v.l.length y.base.cfg.v.c, .slice y.base.cfg.o.a y.base.cfg.o.l.length y.base.cfg.o.c, .slice y.base.cfg.l.a y.base.cfg.l.l.length y.base.cfg.l.c, .slice y.base.cfg.w.a y.base.cfg.w.l.length y.base.cfg.w.c, I64 y.size, I64 y.at_, I64 y.tag, .slice y.bytes.a y.bytes.l.length y.bytes.c] 50)) := qv1.alloc _
      have hoa := ho1.alloc (.cells #[U8V y.kind, I64 y.group, I64 y.src, I64 y.dst, I64 y.term, I64 y.index, I64 y.logt, I64 y.commit, .bool y.ok, .slice y.ents.a y.ents.l.length y.ents.c, I64 y.base.index, I64 y.base.term, .slice y.base.cfg.v.a y.base.cfg.v.l.length y.base.cfg.v.c, .slice y.base.cfg.o.a y.base.cfg.o.l.length y.base.cfg.o.c, .slice y.base.cfg.l.a y.base.cfg.l.l.length y.base.cfg.l.c, .slice y.base.cfg.w.a y.base.cfg.w.l.length y.base.cfg.w.c, I64 y.size, I64 y.at_, I64 y.tag, .slice y.bytes.a y.bytes.l.length y.bytes.c] 50)
      obtain ⟨V2, hV2⟩ : ∃ V, V = V1.alloc (.cells #[U8V y.kind, I64 y.group, I64 y.src, I64 y.dst, I64 y.term, I64 y.index, I64 y.logt, I64 y.commit, .bool y.ok, .slice y.ents.a y.ents.l.length y.ents.c, I64 y.base.index, I64 y.base.term, .slice y.base.cfg.v.a y.base.cfg.v.l.length y.base.cfg.v.c, .slice y.base.cfg.o.a y.base.cfg.o.l.length y.base.cfg.o.c, .slice y.base.cfg.l.a y.base.cfg.l.l.length y.base.cfg.l.c, .slice y.base.cfg.w.a y.base.cfg.w.l.length y.base.cfg.w.c, I64 y.size, I64 y.at_, I64 y.tag, .slice y.bytes.a y.bytes.l.length y.bytes.c] 50) := ⟨_, rfl⟩
      rw [← hV2] at sln qa hoa
      have HV2 := Lib.hid hV2
      clear hV2 ho1
      go_wp2_with (first | (refine wpList_load_row rfl 50 _ rfl G rfl 50 _ (0, 0) _ g1 Tryz.underlying50 rfl (by kernel_rfl) ?_) | (at_builtin; rw [← HV2.out]; refine wl_append2 rfl _ _ _ rfl 256 (.agg #[U8V 0, I64 0, I64 0, I64 0, I64 0, I64 0, I64 0, I64 0, .bool false, .slice none 0 0, I64 0, I64 0, .slice none 0 0, .slice none 0 0, .slice none 0 0, .slice none 0 0, I64 0, I64 0, I64 0, .slice none 0 0]) Tryz.underlying28 info_let rfl (by decide) rfl hoa rfl sln rfl hcy (by omega) (by unfold maxLen; omega) ?_; intro B' c' w2 hap))
      go_roundw
      case rel =>
        obtain ⟨o2, q2, n2⟩ := hap.newOwn (hq.tr (q1.tr qa)) hB
        have hfr := hap.fr
        refine ⟨k + 1, ys ++ [y], B', c', by omega, by go_num, rfl, ?_, by rw [letsC_append, letsC_one]; exact o2, fun u hu => ?_, q2, n2⟩
        · rw [List.take_succ_eq_append_getElem hlt, List.map_append, List.map_append, HT.out, HX.out, List.map_singleton, List.map_singleton, HEY.out]
        · have hin : ∀ j, inA B' j → inA B j ∨ j = V2.heap.size := hap.inA_
          have hBl : ∀ j, inA B j → j < wr.heap.size := ho.lt
          have hs1 := q1.size
          have hsa := qa.size
          rcases List.mem_append.1 hu with hu | hu
          · have i1 := ((HYS.out u hu).nw q1).nw qa
            refine (i1.mono (F' := fun k => (Since w k ∧ ¬ inA B k) ∧ k < V2.heap.size) (fun k hk hl => ⟨hk, hl⟩)).fr hfr (fun k hk => hk.1.2) |>.mono (fun k hk _ => ⟨hk.1.1, fun hj => ?_⟩)
            rcases hin k hj with h | h
            · exact hk.1.2 h
            · omega
          · rw [List.mem_singleton.1 hu]
            have i1 := (iy.nw qa).mono (F' := fun k => Since wr k ∧ k < V2.heap.size) (fun k hk hl => ⟨hk, hl⟩)
            refine (i1.fr hfr (fun k hk hj => by have := hBl k hj; have := hk.1; unfold Since at this; omega)).mono (fun k hk _ => ⟨Nat.le_trans hq.size hk.1, fun hj => ?_⟩)
            rcases hin k hj with h | h
            · have := hBl k h; have := hk.1; unfold Since at this; omega
            · omega
      case measure => simp [intOf]; omega
    · obtain rfl : xs.length = k := by omega
      go_wp2_with fail
      go_ret
      have hT := HT.out
      rw [List.take_of_length_le (Nat.le_refl _)] at hT
      exact ⟨B, c2, ys, rfl, hT, ho, hys, hq, hB⟩
set_option maxRecDepth 100000 in
set_option maxHeartbeats 4000000 in
theorem dCopy_any (w : World) (O I : Nat → Prop) (X : DocM) (h : IsDoc w O I X) (hsz : X.r.l.length ≤ 100000000) :
    Calls Tryz.prog 13 #[.pointer (some ⟨X.g, 0, none⟩)] w fun e w' => ∃ (O' I' : Nat → Prop) (X' : DocM), e = .returned (.pointer (some ⟨X'.g, 0, none⟩)) ∧ IsDoc w' O' I' X' ∧ X'.L = X.L ∧ Nw w w' ∧ (∀ k, O' k → w.heap.size ≤ k) ∧ ∀ k, I' k → w.heap.size ≤ k := by
  have g0 : w.cell? ⟨X.g, 0, none⟩ = some (.slice X.r.a X.r.l.length X.r.c) := by simpa using h.blk.cell 0
  have hcp := copy_letsH w (fun _ => True) X.r.a X.r.c X.r.l (h.own.sl.mono fun _ _ _ => trivial) (fun x hx => (h.each x hx).mono fun _ _ _ => trivial) h.sz hsz
  go_enter Tryz.func13, Tryz.ntmps13
  go_wp2_with (go_at_call 52; refine hcp.mono ?_; rintro e w1 ⟨A1, c1, ys, rfl, ey, o1, i1, q1, b1⟩)
  go_ret
  obtain ⟨g2, hg2⟩ : ∃ g2, g2 = w1.heap.size := ⟨_, rfl⟩
  rw [← hg2]
  have hl : ys.length = X.r.l.length := by simpa using congrArg List.length ey
  have hq := q1.size
  have hlt := o1.lt
  have qa : Nw w1 (w1.alloc (.cells #[.slice A1 X.r.l.length c1] 30)) := (Fr.refl (fun _ => False) w1).alloc _
  have hsa : (w1.alloc (.cells #[.slice A1 X.r.l.length c1] 30)).heap.size = w1.heap.size + 1 := Array.size_push _
  refine ⟨fun k => k = g2 ∨ inA A1 k, fun k => (Since w k ∧ ¬ inA A1 k) ∧ k < w1.heap.size, ⟨g2, ⟨A1, c1, ys⟩⟩, rfl, ⟨?_, ?_, fun k hk => .inr hk, fun x hx => ((i1 x hx).mono (fun k hk hl => ⟨hk, hl⟩)).nw qa, szs_eq ey h.sz, .inl rfl, ?_, ?_, ?_⟩, ey, q1.tr qa, ?_, fun k hk => hk.1.1⟩
  · show Blk _ g2 _ #[.slice A1 ys.length c1]
    rw [hl, hg2]
    exact Blk.new _ _ _
  · show Own _ 50 20 A1 ys.length c1 (letsC ys)
    rw [hl]
    exact o1.fr qa (fun _ _ h => h)
  · rintro k (rfl | hk) h2
    · have := h2.2; omega
    · exact h2.1.2 hk
  · rintro k (rfl | hk)
    · omega
    · have := hlt k hk; omega
  · intro k hk
    have := hk.2
    omega
  · rintro k (rfl | hk)
    · omega
    · exact b1 k hk
end Go.Proofs.YtippdjaakcgeoaaGreat
