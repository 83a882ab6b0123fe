/- Lemmas of the walks: BgB, FtI. (Laid together by shake.py.) -/
import Derived.Test.YtippdjaakcgeoaaGreatNe21
set_option linter.unusedVariables false
set_option linter.unusedSimpArgs false
namespace Go.Proofs.YtippdjaakcgeoaaGreat
open Go Go.RowKit
set_option linter.unusedVariables false
set_option linter.unusedSimpArgs false
def lvs {α : Type} (l : List (Ls α)) : List Value := l.map Ls.v
theorem lvs_append {α : Type} (l m : List (Ls α)) : lvs (l ++ m) = lvs l ++ lvs m := List.map_append
theorem lvs_flat_succ {α β : Type} (g : α → List (Ls β)) (l : List α) (k : Nat) (h : k < l.length) : lvs ((l.take (k + 1)).flatMap g) = lvs ((l.take k).flatMap g) ++ lvs (g l[k]) := by
  rw [List.take_succ_eq_append_getElem h, List.flatMap_append, lvs_append]
  simp
theorem lvs_map_succ {α β : Type} (g : α → Ls β) (l : List α) (k : Nat) (h : k < l.length) : lvs ((l.take (k + 1)).map g) = lvs ((l.take k).map g) ++ [(g l[k]).v] := by
  rw [List.take_succ_eq_append_getElem h, List.map_append, lvs_append]
  rfl
theorem lvs_len {α : Type} (l : List (Ls α)) : (lvs l).length = l.length := by simp [lvs]

set_option maxRecDepth 100000 in
set_option maxHeartbeats 2000000 in
theorem oneConfig_bag0 (w0 w : World) (g : Nat) (hi hb he hl : List Value) (x : CfgM) (hst : BagSt w0 w g hi hb he hl) (hm : hi.length ≤ 999999990) :
    Calls Tryz.prog 218 #[.pointer (some ⟨g, 0, none⟩), .agg (cfgA x)] w fun e w' => e = .returned (.tuple #[]) ∧ BgTo w0 w g (hi ++ [x.v.v, x.o.v, x.l.v, x.w.v]) hb he hl w' := by
  obtain ⟨X, hX⟩ : ∃ X, X = w.heap.size := ⟨_, rfl⟩
  obtain ⟨W0, hW0⟩ : ∃ W, W = w.alloc (.cells #[.slice x.v.a x.v.l.length x.v.c, .slice x.o.a x.o.l.length x.o.c, .slice x.l.a x.l.l.length x.l.c, .slice x.w.a x.w.l.length x.w.c] 45) := ⟨_, rfl⟩
  have p0 : Nw w W0 := by rw [hW0]; exact (Fr.refl (fun _ => False) _).alloc _
  have x0 : Blk W0 X 45 #[.slice x.v.a x.v.l.length x.v.c, .slice x.o.a x.o.l.length x.o.c, .slice x.l.a x.l.l.length x.l.c, .slice x.w.a x.w.l.length x.w.c] := by rw [hW0, hX]; exact Blk.new _ _ _
  have b0 := hst.nw p0
  have k0 := BgKeep.nw p0
  have HX := Lib.hid hX
  have HW0 := Lib.hid hW0
  clear hX hW0 hst p0
  go_enter Tryz.func218, Tryz.ntmps218
  go_upto_region 1 with (fail)
  rw [← HX.out, ← HW0.out]
  have c1 : W0.cell? ⟨X, 0, none⟩ = some (.slice x.v.a x.v.l.length x.v.c) := by simpa using x0.cell 0
  go_wp2_with fail
  refine ((putInts_bag w0 _ g _ hb he hl _ _ _ b0 (by first | omega | (simp only [List.length_append, List.length_cons, List.length_nil]; omega)))).mono ?_
  rintro e w1 ⟨rfl, b1, t1⟩
  have x1 := t1 _ _ _ x0 (by decide) (by decide) (by decide) (by decide) (by decide)
  have k1 := k0.tr t1
  clear c1 x0 t1 k0 b0
  have c2 : w1.cell? ⟨X, 1, none⟩ = some (.slice x.o.a x.o.l.length x.o.c) := by simpa using x1.cell 1
  go_wp2_with fail
  refine ((putInts_bag w0 _ g _ hb he hl _ _ _ b1 (by first | omega | (simp only [List.length_append, List.length_cons, List.length_nil]; omega)))).mono ?_
  rintro e w2 ⟨rfl, b2, t2⟩
  have x2 := t2 _ _ _ x1 (by decide) (by decide) (by decide) (by decide) (by decide)
  have k2 := k1.tr t2
  clear c2 x1 t2 k1 b1
  have c3 : w2.cell? ⟨X, 2, none⟩ = some (.slice x.l.a x.l.l.length x.l.c) := by simpa using x2.cell 2
  go_wp2_with fail
  refine ((putInts_bag w0 _ g _ hb he hl _ _ _ b2 (by first | omega | (simp only [List.length_append, List.length_cons, List.length_nil]; omega)))).mono ?_
  rintro e w3 ⟨rfl, b3, t3⟩
  have x3 := t3 _ _ _ x2 (by decide) (by decide) (by decide) (by decide) (by decide)
  have k3 := k2.tr t3
  clear c3 x2 t3 k2 b2
  have c4 : w3.cell? ⟨X, 3, none⟩ = some (.slice x.w.a x.w.l.length x.w.c) := by simpa using x3.cell 3
  go_wp2_with fail
  refine ((putInts_bag w0 _ g _ hb he hl _ _ _ b3 (by first | omega | (simp only [List.length_append, List.length_cons, List.length_nil]; omega)))).mono ?_
  rintro e w4 ⟨rfl, b4, t4⟩
  have x4 := t4 _ _ _ x3 (by decide) (by decide) (by decide) (by decide) (by decide)
  have k4 := k3.tr t4
  clear c4 x3 t4 k3 b3
  have BZ := Lib.hid b4
  clear b4 x4
  go_wp2_with fail
  go_end0
  refine ⟨rfl, ?_, k4⟩
  have bz := BZ.out
  simpa [cfgInts, entInts, letInts, letByts, List.append_assoc] using bz

theorem oneConfig_bag (w0 w : World) (g : Nat) (hi hb he hl : List Value) (x : CfgM) (hst : BagSt w0 w g hi hb he hl) (hm : hi.length ≤ 999999990) :
    Calls Tryz.prog 218 #[.pointer (some ⟨g, 0, none⟩), .agg #[.slice x.v.a x.v.l.length x.v.c, .slice x.o.a x.o.l.length x.o.c, .slice x.l.a x.l.l.length x.l.c, .slice x.w.a x.w.l.length x.w.c]] w fun e w' => e = .returned (.tuple #[]) ∧ BgTo w0 w g (hi ++ lvs (cfgInts x)) hb he hl w' := oneConfig_bag0 w0 w g hi hb he hl x hst hm

set_option maxRecDepth 100000 in
set_option maxHeartbeats 2000000 in
theorem oneEntry_bag0 (w0 w : World) (g : Nat) (hi hb he hl : List Value) (x : EntM) (hst : BagSt w0 w g hi hb he hl) (hm : hi.length ≤ 999999990) (hm2 : hb.length ≤ 999999990) :
    Calls Tryz.prog 217 #[.pointer (some ⟨g, 0, none⟩), .agg (entA x)] w fun e w' => e = .returned (.tuple #[]) ∧ BgTo w0 w g (hi ++ lvs (entInts x)) (hb ++ [x.cmd.v]) he hl w' := by
  obtain ⟨X, hX⟩ : ∃ X, X = w.heap.size := ⟨_, rfl⟩
  obtain ⟨W0, hW0⟩ : ∃ W, W = w.alloc (.cells #[I64 x.term, U8V x.kind, .slice x.cmd.a x.cmd.l.length x.cmd.c, .slice x.cfg.v.a x.cfg.v.l.length x.cfg.v.c, .slice x.cfg.o.a x.cfg.o.l.length x.cfg.o.c, .slice x.cfg.l.a x.cfg.l.l.length x.cfg.l.c, .slice x.cfg.w.a x.cfg.w.l.length x.cfg.w.c] 87) := ⟨_, rfl⟩
  have p0 : Nw w W0 := by rw [hW0]; exact (Fr.refl (fun _ => False) _).alloc _
  have x0 : Blk W0 X 87 #[I64 x.term, U8V x.kind, .slice x.cmd.a x.cmd.l.length x.cmd.c, .slice x.cfg.v.a x.cfg.v.l.length x.cfg.v.c, .slice x.cfg.o.a x.cfg.o.l.length x.cfg.o.c, .slice x.cfg.l.a x.cfg.l.l.length x.cfg.l.c, .slice x.cfg.w.a x.cfg.w.l.length x.cfg.w.c] := by rw [hW0, hX]; exact Blk.new _ _ _
  have b0 := hst.nw p0
  have k0 := BgKeep.nw p0
  have HX := Lib.hid hX
  have HW0 := Lib.hid hW0
  clear hX hW0 hst p0
  go_enter Tryz.func217, Tryz.ntmps217
  go_upto_region 1 with (fail)
  rw [← HX.out, ← HW0.out]
  have c1 : W0.cell? ⟨X, 2, none⟩ = some (.slice x.cmd.a x.cmd.l.length x.cmd.c) := by simpa using x0.cell 2
  go_wp2_with fail
  refine ((putBytes_bag w0 _ g hi hb he hl _ _ _ b0 (by omega))).mono ?_
  rintro e w1 ⟨rfl, b1, t1⟩
  have x1 := t1 _ _ _ x0 (by decide) (by decide) (by decide) (by decide) (by decide)
  have k1 := k0.tr t1
  clear c1 x0 t1 k0 b0
  have c2 : ∀ p u, ([.slice x.cfg.v.a x.cfg.v.l.length x.cfg.v.c, .slice x.cfg.o.a x.cfg.o.l.length x.cfg.o.c, .slice x.cfg.l.a x.cfg.l.l.length x.cfg.l.c, .slice x.cfg.w.a x.cfg.w.l.length x.cfg.w.c] : List Value)[p]? = some u → w1.cell? ⟨X, 3 + p, none⟩ = some u := Blk.cells_in x1 3 4
  go_wp2_with (refine wl_load_cells rfl 45 _ rfl X 3 rfl [.slice x.cfg.v.a x.cfg.v.l.length x.cfg.v.c, .slice x.cfg.o.a x.cfg.o.l.length x.cfg.o.c, .slice x.cfg.l.a x.cfg.l.l.length x.cfg.l.c, .slice x.cfg.w.a x.cfg.w.l.length x.cfg.w.c] _ c2 Tryz.underlying45 rfl (by kernel_rfl) ?_)
  refine ((oneConfig_bag w0 _ g hi _ he hl x.cfg b1 (by omega))).mono ?_
  rintro e w2 ⟨rfl, b2, t2⟩
  have x2 := t2 _ _ _ x1 (by decide) (by decide) (by decide) (by decide) (by decide)
  have k2 := k1.tr t2
  clear c2 x1 t2 k1 b1
  have BZ := Lib.hid b2
  clear b2 x2
  go_wp2_with fail
  go_end0
  refine ⟨rfl, ?_, k2⟩
  have bz := BZ.out
  simpa [cfgInts, entInts, letInts, letByts, List.append_assoc] using bz

set_option maxRecDepth 100000 in
set_option maxHeartbeats 2000000 in
theorem oneBase_bag0 (w0 w : World) (g : Nat) (hi hb he hl : List Value) (x : BasM) (hst : BagSt w0 w g hi hb he hl) (hm : hi.length ≤ 999999990) :
    Calls Tryz.prog 180 #[.pointer (some ⟨g, 0, none⟩), .agg (basA x)] w fun e w' => e = .returned (.tuple #[]) ∧ BgTo w0 w g (hi ++ lvs (cfgInts x.cfg)) hb he hl w' := by
  obtain ⟨X, hX⟩ : ∃ X, X = w.heap.size := ⟨_, rfl⟩
  obtain ⟨W0, hW0⟩ : ∃ W, W = w.alloc (.cells #[I64 x.index, I64 x.term, .slice x.cfg.v.a x.cfg.v.l.length x.cfg.v.c, .slice x.cfg.o.a x.cfg.o.l.length x.cfg.o.c, .slice x.cfg.l.a x.cfg.l.l.length x.cfg.l.c, .slice x.cfg.w.a x.cfg.w.l.length x.cfg.w.c] 47) := ⟨_, rfl⟩
  have p0 : Nw w W0 := by rw [hW0]; exact (Fr.refl (fun _ => False) _).alloc _
  have x0 : Blk W0 X 47 #[I64 x.index, I64 x.term, .slice x.cfg.v.a x.cfg.v.l.length x.cfg.v.c, .slice x.cfg.o.a x.cfg.o.l.length x.cfg.o.c, .slice x.cfg.l.a x.cfg.l.l.length x.cfg.l.c, .slice x.cfg.w.a x.cfg.w.l.length x.cfg.w.c] := by rw [hW0, hX]; exact Blk.new _ _ _
  have b0 := hst.nw p0
  have k0 := BgKeep.nw p0
  have HX := Lib.hid hX
  have HW0 := Lib.hid hW0
  clear hX hW0 hst p0
  go_enter Tryz.func180, Tryz.ntmps180
  go_upto_region 1 with (fail)
  rw [← HX.out, ← HW0.out]
  have c1 : ∀ p u, ([.slice x.cfg.v.a x.cfg.v.l.length x.cfg.v.c, .slice x.cfg.o.a x.cfg.o.l.length x.cfg.o.c, .slice x.cfg.l.a x.cfg.l.l.length x.cfg.l.c, .slice x.cfg.w.a x.cfg.w.l.length x.cfg.w.c] : List Value)[p]? = some u → W0.cell? ⟨X, 2 + p, none⟩ = some u := Blk.cells_in x0 2 4
  go_wp2_with (refine wl_load_cells rfl 45 _ rfl X 2 rfl [.slice x.cfg.v.a x.cfg.v.l.length x.cfg.v.c, .slice x.cfg.o.a x.cfg.o.l.length x.cfg.o.c, .slice x.cfg.l.a x.cfg.l.l.length x.cfg.l.c, .slice x.cfg.w.a x.cfg.w.l.length x.cfg.w.c] _ c1 Tryz.underlying45 rfl (by kernel_rfl) ?_)
  refine ((oneConfig_bag w0 _ g hi hb he hl x.cfg b0 (by omega))).mono ?_
  rintro e w1 ⟨rfl, b1, t1⟩
  have x1 := t1 _ _ _ x0 (by decide) (by decide) (by decide) (by decide) (by decide)
  have k1 := k0.tr t1
  clear c1 x0 t1 k0 b0
  have BZ := Lib.hid b1
  clear b1 x1
  go_wp2_with fail
  go_end0
  refine ⟨rfl, ?_, k1⟩
  have bz := BZ.out
  simpa [cfgInts, entInts, letInts, letByts, List.append_assoc] using bz

theorem flatMap_len4 (l : List EntM) (k : Nat) : ((l.take k).flatMap entInts).length ≤ 4 * l.length := by
  have : ∀ l : List EntM, (l.flatMap entInts).length = 4 * l.length := by
    intro l
    induction l with
    | nil => rfl
    | cons a l ih => rw [List.flatMap_cons, List.length_append, ih, List.length_cons]; show 4 + _ = _; omega
  rw [this, List.length_take]
  omega

def putEntriesRel (w0 w1 : World) (A : Option Addr) (c : Nat) (g : Nat) (hi hb he hl : List Value) (l : List EntM) (i : Value) (wr : World) : Prop := ∃ k : Nat, k ≤ l.length ∧ i = .int .i64 k ∧ BgTo w0 w1 g (hi ++ lvs ((l.take k).flatMap entInts)) (hb ++ lvs ((l.take k).map EntM.cmd)) (he ++ [.slice A l.length c]) hl wr
set_option maxRecDepth 100000 in
set_option maxHeartbeats 2000000 in
theorem putEntries_bag (w0 w : World) (g : Nat) (hi hb he hl : List Value) (A : Option Addr) (c : Nat) (l : List EntM) (F : Nat → Prop) (hs : Sl w0 F A (entsC l))  (hst : BagSt w0 w g hi hb he hl) (hm : hi.length + 4 * l.length ≤ 999999000) (hm2 : hb.length + l.length ≤ 999999000) (hm9 : he.length ≤ 999999000) :
    Calls Tryz.prog 179 #[.pointer (some ⟨g, 0, none⟩), .slice A l.length c] w fun e w' => e = .returned (.tuple #[]) ∧ BgTo w0 w g (hi ++ lvs (l.flatMap entInts)) (hb ++ lvs (l.map EntM.cmd)) (he ++ [.slice A l.length c]) hl w' := by
  obtain ⟨Bi, ci, Bb, cb, Be, ce, Bl, cl, h⟩ := hst
  have c5 := h.cell_e
  have hone : ∀ u ∈ [Value.slice A l.length c], u.oneCell' = true := by simp [Value.oneCell']
  have ho := h.oe
  have hAP := fun B' c' w1 hap => h.app_e (B' := B') (c' := c') (w1 := w1) (X := A) (n := l.length) (cx := c) hap
  have HAP := Lib.hid hAP
  clear hAP h
  obtain ⟨m, hmm⟩ : ∃ m, he.length = m := ⟨_, rfl⟩
  rw [hmm] at c5 ho hm9 HAP
  clear hmm
  go_enter Tryz.func179, Tryz.ntmps179
  go_upto_region 1 with (at_builtin; refine wl_append2 rfl _ _ _ rfl 24 (.slice none 0 0) Tryz.underlying109 info_he rfl (by decide) rfl (ho.alloc _) rfl (sl_new w 43 [.slice A l.length c] _ rfl) rfl hone (by omega) (by unfold maxLen; omega) ?_; intro B' c' w1 hap; obtain ⟨c51, f51, hfin⟩ := HAP.out _ _ _ hap; have HF := Lib.hid hfin; clear hfin)
  obtain ⟨W1, hW1⟩ : ∃ W, W = w1.setCell ⟨g, 16, none⟩ (.slice B' (m + 1) c') := ⟨_, rfl⟩
  have st1 := HF.out
  rw [← hW1] at st1
  have HW1 := Lib.hid hW1
  rw [← HW1.out]
  clear hW1 c51 f51 HF HAP hap ho c5
  go_wp2_with fail
  go_loopw [4] (fun i wr => putEntriesRel w0 w A c g hi hb he hl l i wr) (fun i _ => l.length - (intOf i).toNat)
  case atStart => exact ⟨0, Nat.zero_le _, rfl, by simpa [lvs] using st1⟩
  case round =>
    clear st1
    obtain ⟨k, hk, rfl, st, kp⟩ := hrel
    by_cases hlt : k < l.length
    · have hi0 : (k : Int) < (l.length : Int) := by omega
      have hi1 : decide ((k : Int) < (l.length : Int)) = true := decide_eq_true hi0
      have hi2 : decide (k < l.length) = true := decide_eq_true hlt
      obtain ⟨b, o, hA, _, _, hc⟩ := (hs.fr st.new_ (fun _ _ h => h)).ent hlt
      have hnext : ∀ w', BgTo w0 wr g ((hi ++ lvs ((l.take k).flatMap entInts)) ++ lvs (entInts l[k])) ((hb ++ lvs ((l.take k).map EntM.cmd)) ++ [(l[k]).cmd.v]) (he ++ [.slice A l.length c]) hl w' → putEntriesRel w0 w A c g hi hb he hl l (.int .i64 ((k : Int) + 1)) w' := fun w' h => by
        refine ⟨k + 1, by omega, by go_num, ?_, kp.tr h.2⟩
        have h1 := h.1
        rw [lvs_flat_succ _ _ _ hlt, lvs_map_succ _ _ _ hlt]
        simp only [← List.append_assoc]
        exact h1
      have HNX := Lib.hid hnext
      have hl1 : ((l.take k).flatMap entInts).length ≤ 4 * l.length := Nat.le_trans (flatMap_len4 _ k) (by omega)
      have hl2 : ((l.take k).map EntM.cmd).length ≤ l.length := by rw [List.length_map, List.length_take]; omega
      have hcall := oneEntry_bag0 w0 wr g _ _ _ _ l[k] st (by rw [List.length_append, lvs_len]; omega) (by rw [List.length_append, lvs_len]; omega)
      obtain ⟨x, hx⟩ : ∃ x, l[k] = x := ⟨_, rfl⟩
      rw [hx] at hc hcall HNX
      have HC := Lib.hid hcall
      clear hx hnext hcall
      subst hA
      go_wp2_with (refine wl_load_cells rfl 87 _ rfl b (o + k * 7) rfl _ _ hc Tryz.underlying87 rfl (by kernel_rfl) ?_)
      refine HC.out.mono ?_
      rintro e w5 ⟨rfl, b5⟩
      have h5 := HNX.out w5 b5
      have H5 := Lib.hid h5
      clear h5 b5
      go_wp2_with fail
      refine ⟨H5.out, ?_⟩
      simp [intOf]
      omega
    · obtain rfl : k = l.length := by omega
      rw [List.take_length] at st
      have ST := Lib.hid st
      clear st
      go_wp2_with fail
      go_end0
      exact ⟨rfl, ST.out, kp⟩

set_option maxRecDepth 100000 in
set_option maxHeartbeats 2000000 in
theorem oneLetter_bag0 (w0 w : World) (g : Nat) (hi hb he hl : List Value) (x : LetM) (F : Nat → Prop) (hs : Sl w0 F x.ents.a (entsC x.ents.l)) (hst : BagSt w0 w g hi hb he hl) (hq : (x.ents.l.flatMap entInts).length ≤ 4 * x.ents.l.length) (hm : hi.length + 4 * x.ents.l.length ≤ 999998000) (hm2 : hb.length + x.ents.l.length ≤ 999998000) (hm9 : he.length ≤ 999998000) :
    Calls Tryz.prog 108 #[.pointer (some ⟨g, 0, none⟩), .agg (letA x)] w fun e w' => e = .returned (.tuple #[]) ∧ BgTo w0 w g (hi ++ lvs (letInts x)) (hb ++ lvs (letByts x)) (he ++ [x.ents.v]) hl w' := by
  obtain ⟨X, hX⟩ : ∃ X, X = w.heap.size := ⟨_, rfl⟩
  obtain ⟨W0, hW0⟩ : ∃ W, W = w.alloc (.cells #[U8V x.kind, I64 x.group, I64 x.src, I64 x.dst, I64 x.term, I64 x.index, I64 x.logt, I64 x.commit, .bool x.ok, .slice x.ents.a x.ents.l.length x.ents.c, I64 x.base.index, I64 x.base.term, .slice x.base.cfg.v.a x.base.cfg.v.l.length x.base.cfg.v.c, .slice x.base.cfg.o.a x.base.cfg.o.l.length x.base.cfg.o.c, .slice x.base.cfg.l.a x.base.cfg.l.l.length x.base.cfg.l.c, .slice x.base.cfg.w.a x.base.cfg.w.l.length x.base.cfg.w.c, I64 x.size, I64 x.at_, I64 x.tag, .slice x.bytes.a x.bytes.l.length x.bytes.c] 50) := ⟨_, rfl⟩
  have p0 : Nw w W0 := by rw [hW0]; exact (Fr.refl (fun _ => False) _).alloc _
  have x0 : Blk W0 X 50 #[U8V x.kind, I64 x.group, I64 x.src, I64 x.dst, I64 x.term, I64 x.index, I64 x.logt, I64 x.commit, .bool x.ok, .slice x.ents.a x.ents.l.length x.ents.c, I64 x.base.index, I64 x.base.term, .slice x.base.cfg.v.a x.base.cfg.v.l.length x.base.cfg.v.c, .slice x.base.cfg.o.a x.base.cfg.o.l.length x.base.cfg.o.c, .slice x.base.cfg.l.a x.base.cfg.l.l.length x.base.cfg.l.c, .slice x.base.cfg.w.a x.base.cfg.w.l.length x.base.cfg.w.c, I64 x.size, I64 x.at_, I64 x.tag, .slice x.bytes.a x.bytes.l.length x.bytes.c] := by rw [hW0, hX]; exact Blk.new _ _ _
  have b0 := hst.nw p0
  have k0 := BgKeep.nw p0
  have HX := Lib.hid hX
  have HW0 := Lib.hid hW0
  clear hX hW0 hst p0
  go_enter Tryz.func108, Tryz.ntmps108
  go_upto_region 1 with (fail)
  rw [← HX.out, ← HW0.out]
  have c1 : W0.cell? ⟨X, 9, none⟩ = some (.slice x.ents.a x.ents.l.length x.ents.c) := by simpa using x0.cell 9
  go_wp2_with fail
  refine ((putEntries_bag w0 _ g hi hb he hl _ _ x.ents.l F hs b0 (by omega) (by omega) (by omega))).mono ?_
  rintro e w1 ⟨rfl, b1, t1⟩
  have x1 := t1 _ _ _ x0 (by decide) (by decide) (by decide) (by decide) (by decide)
  have k1 := k0.tr t1
  clear c1 x0 t1 k0 b0
  have c2 : ∀ p u, ([I64 x.base.index, I64 x.base.term, .slice x.base.cfg.v.a x.base.cfg.v.l.length x.base.cfg.v.c, .slice x.base.cfg.o.a x.base.cfg.o.l.length x.base.cfg.o.c, .slice x.base.cfg.l.a x.base.cfg.l.l.length x.base.cfg.l.c, .slice x.base.cfg.w.a x.base.cfg.w.l.length x.base.cfg.w.c] : List Value)[p]? = some u → w1.cell? ⟨X, 10 + p, none⟩ = some u := Blk.cells_in x1 10 6
  go_wp2_with (refine wl_load_cells rfl 47 _ rfl X 10 rfl [I64 x.base.index, I64 x.base.term, .slice x.base.cfg.v.a x.base.cfg.v.l.length x.base.cfg.v.c, .slice x.base.cfg.o.a x.base.cfg.o.l.length x.base.cfg.o.c, .slice x.base.cfg.l.a x.base.cfg.l.l.length x.base.cfg.l.c, .slice x.base.cfg.w.a x.base.cfg.w.l.length x.base.cfg.w.c] _ c2 Tryz.underlying47 rfl (by kernel_rfl) ?_)
  refine ((oneBase_bag0 w0 _ g _ _ _ _ x.base b1 (by rw [List.length_append, lvs_len]; omega))).mono ?_
  rintro e w2 ⟨rfl, b2, t2⟩
  have x2 := t2 _ _ _ x1 (by decide) (by decide) (by decide) (by decide) (by decide)
  have k2 := k1.tr t2
  clear c2 x1 t2 k1 b1
  have c3 : w2.cell? ⟨X, 19, none⟩ = some (.slice x.bytes.a x.bytes.l.length x.bytes.c) := by simpa using x2.cell 19
  go_wp2_with fail
  refine ((putBytes_bag w0 _ g _ _ _ _ _ _ _ b2 (by rw [List.length_append, lvs_len, List.length_map]; omega))).mono ?_
  rintro e w3 ⟨rfl, b3, t3⟩
  have x3 := t3 _ _ _ x2 (by decide) (by decide) (by decide) (by decide) (by decide)
  have k3 := k2.tr t3
  clear c3 x2 t3 k2 b2
  have BZ := Lib.hid b3
  clear b3 x3
  go_wp2_with fail
  go_end0
  refine ⟨rfl, ?_, k3⟩
  have bz := BZ.out
  rw [letInts, letByts, lvs_append, lvs_append, ← List.append_assoc, ← List.append_assoc]
  exact bz

theorem flat_pre {α β : Type} (g : α → List β) (l : List α) (k : Nat) (h : k < l.length) : ((l.take k).flatMap g).length + (g l[k]).length ≤ (l.flatMap g).length := by
  have h1 : ((l.take (k + 1)).flatMap g).length = ((l.take k).flatMap g).length + (g l[k]).length := by
    rw [List.take_succ_eq_append_getElem h, List.flatMap_append, List.length_append]; simp
  rw [← h1]
  conv => rhs; rw [← List.take_append_drop (k + 1) l, List.flatMap_append, List.length_append]
  omega
theorem letInts_len (x : LetM) : (letInts x).length = 4 * x.ents.l.length + 4 := by
  have : ∀ l : List EntM, (l.flatMap entInts).length = 4 * l.length := by
    intro l
    induction l with
    | nil => rfl
    | cons a l ih => rw [List.flatMap_cons, List.length_append, ih, List.length_cons]; show 4 + _ = _; omega
  rw [letInts, List.length_append, this]
  rfl
theorem letByts_len (x : LetM) : (letByts x).length = x.ents.l.length + 1 := by rw [letByts, List.length_append, List.length_map]; rfl

def putLettersRel (w0 w1 : World) (A : Option Addr) (c : Nat) (g : Nat) (hi hb he hl : List Value) (l : List LetM) (i : Value) (wr : World) : Prop := ∃ k : Nat, k ≤ l.length ∧ i = .int .i64 k ∧ BgTo w0 w1 g (hi ++ lvs ((l.take k).flatMap letInts)) (hb ++ lvs ((l.take k).flatMap letByts)) (he ++ lvs ((l.take k).map LetM.ents)) (hl ++ [.slice A l.length c]) wr
set_option maxRecDepth 100000 in
set_option maxHeartbeats 2000000 in
theorem putLetters_bag (w0 w : World) (g : Nat) (hi hb he hl : List Value) (A : Option Addr) (c : Nat) (l : List LetM) (F : Nat → Prop) (hs : Sl w0 F A (letsC l)) (hin : ∀ x ∈ l, LetIn w0 F x) (hst : BagSt w0 w g hi hb he hl) (hm : hi.length + (l.flatMap letInts).length ≤ 999990000) (hm2 : hb.length + (l.flatMap letByts).length ≤ 999990000) (hm3 : he.length + l.length ≤ 999990000) (hm9 : hl.length ≤ 999990000) :
    Calls Tryz.prog 60 #[.pointer (some ⟨g, 0, none⟩), .slice A l.length c] w fun e w' => e = .returned (.tuple #[]) ∧ BgTo w0 w g (hi ++ lvs (l.flatMap letInts)) (hb ++ lvs (l.flatMap letByts)) (he ++ lvs (l.map LetM.ents)) (hl ++ [.slice A l.length c]) w' := by
  obtain ⟨Bi, ci, Bb, cb, Be, ce, Bl, cl, h⟩ := hst
  have c5 := h.cell_l
  have hone : ∀ u ∈ [Value.slice A l.length c], u.oneCell' = true := by simp [Value.oneCell']
  have ho := h.ol
  have hAP := fun B' c' w1 hap => h.app_l (B' := B') (c' := c') (w1 := w1) (X := A) (n := l.length) (cx := c) hap
  have HAP := Lib.hid hAP
  clear hAP h
  obtain ⟨m, hmm⟩ : ∃ m, hl.length = m := ⟨_, rfl⟩
  rw [hmm] at c5 ho hm9 HAP
  clear hmm
  go_enter Tryz.func60, Tryz.ntmps60
  go_upto_region 1 with (at_builtin; refine wl_append2 rfl _ _ _ rfl 24 (.slice none 0 0) Tryz.underlying39 info_hl rfl (by decide) rfl (ho.alloc _) rfl (sl_new w 28 [.slice A l.length c] _ rfl) rfl hone (by omega) (by unfold maxLen; omega) ?_; intro B' c' w1 hap; obtain ⟨c51, f51, hfin⟩ := HAP.out _ _ _ hap; have HF := Lib.hid hfin; clear hfin)
  obtain ⟨W1, hW1⟩ : ∃ W, W = w1.setCell ⟨g, 19, none⟩ (.slice B' (m + 1) c') := ⟨_, rfl⟩
  have st1 := HF.out
  rw [← hW1] at st1
  have HW1 := Lib.hid hW1
  rw [← HW1.out]
  clear hW1 c51 f51 HF HAP hap ho c5
  go_wp2_with fail
  go_loopw [4] (fun i wr => putLettersRel w0 w A c g hi hb he hl l i wr) (fun i _ => l.length - (intOf i).toNat)
  case atStart => exact ⟨0, Nat.zero_le _, rfl, by simpa [lvs] using st1⟩
  case round =>
    clear st1
    obtain ⟨k, hk, rfl, st, kp⟩ := hrel
    by_cases hlt : k < l.length
    · have hi0 : (k : Int) < (l.length : Int) := by omega
      have hi1 : decide ((k : Int) < (l.length : Int)) = true := decide_eq_true hi0
      have hi2 : decide (k < l.length) = true := decide_eq_true hlt
      obtain ⟨b, o, hA, _, _, hc⟩ := (hs.fr st.new_ (fun _ _ h => h)).let_ hlt
      have hnext : ∀ w', BgTo w0 wr g ((hi ++ lvs ((l.take k).flatMap letInts)) ++ lvs (letInts l[k])) ((hb ++ lvs ((l.take k).flatMap letByts)) ++ lvs (letByts l[k])) ((he ++ lvs ((l.take k).map LetM.ents)) ++ [(l[k]).ents.v]) (hl ++ [.slice A l.length c]) w' → putLettersRel w0 w A c g hi hb he hl l (.int .i64 ((k : Int) + 1)) w' := fun w' h => by
        refine ⟨k + 1, by omega, by go_num, ?_, kp.tr h.2⟩
        have h1 := h.1
        rw [lvs_flat_succ _ _ _ hlt, lvs_flat_succ _ _ _ hlt, lvs_map_succ _ _ _ hlt]
        simp only [← List.append_assoc]
        exact h1
      have HNX := Lib.hid hnext
      have hl1 := flat_pre letInts l k hlt
      have hl2 := flat_pre letByts l k hlt
      rw [letInts_len] at hl1
      rw [letByts_len] at hl2
      have hl3 : ((l.take k).map LetM.ents).length ≤ l.length := by rw [List.length_map, List.length_take]; omega
      have hcall := oneLetter_bag0 w0 wr g _ _ _ _ l[k] F (hin _ (List.getElem_mem hlt)).ents.sl st (by have := letInts_len l[k]; rw [letInts, List.length_append] at this; have e : (cfgInts (l[k]).base.cfg).length = 4 := rfl; omega) (by rw [List.length_append, lvs_len]; omega) (by rw [List.length_append, lvs_len]; omega) (by rw [List.length_append, lvs_len]; omega)
      obtain ⟨x, hx⟩ : ∃ x, l[k] = x := ⟨_, rfl⟩
      rw [hx] at hc hcall HNX
      have HC := Lib.hid hcall
      clear hx hnext hcall
      subst hA
      go_wp2_with (refine wl_load_cells rfl 50 _ rfl b (o + k * 20) rfl _ _ hc Tryz.underlying50 rfl (by kernel_rfl) ?_)
      refine HC.out.mono ?_
      rintro e w5 ⟨rfl, b5⟩
      have h5 := HNX.out w5 b5
      have H5 := Lib.hid h5
      clear h5 b5
      go_wp2_with fail
      refine ⟨H5.out, ?_⟩
      simp [intOf]
      omega
    · obtain rfl : k = l.length := by omega
      rw [List.take_length] at st
      have ST := Lib.hid st
      clear st
      go_wp2_with fail
      go_end0
      exact ⟨rfl, ST.out, kp⟩

end Go.Proofs.YtippdjaakcgeoaaGreat

namespace Go.Proofs.YtippdjaakcgeoaaGreat
open Go Go.RowKit
set_option linter.unusedVariables false
set_option linter.unusedSimpArgs false
def mkIL (k i : Nat) : List Value := [I64 (mkI k i)]
theorem mkIL_len (k i : Nat) : (mkIL k i).length = 1 := rfl
theorem info_eI : (Tryz.prog.info? 3).map (fun i => (i.zero, i.size, i.bytes)) = some (some (.int .i64 0), 1, 8) := by kernel_rfl
set_option maxRecDepth 100000 in
set_option maxHeartbeats 8000000 in
theorem flatI_c (w : World) (F0 : Nat → Prop) (B : Option Addr) (c : Nat) (m : Nat) (A : Nat → Option Addr) (N cp : Nat → Nat) (f : Nat → List Value) (hs : Sl w F0 B (hdrs m A N cp)) (hr : RowsC w 3 1 m A N cp f) (hfar : FarC m A cp) (h0 : ∀ b, F0 b → ¬ InC m A cp b)
    (hm : m ≤ 1000000000) (hN : ∀ k, k < m → N k ≤ 100000000000) :
    Calls Tryz.prog 111 #[.slice B m c] w fun e w' => e = .returned (.bool true) ∧ Fr (InC m A cp) w w' := by
  have hmkl := mkIL_len
  go_enter Tryz.func111, Tryz.ntmps111
  go_wp2_with fail
  go_loopw [3] (fun i wr => Fl1o mkIL 3 1 w m A N cp i wr) (fun i _ => m - (intOf i).toNat)
  case atStart => exact ⟨0, Nat.zero_le _, rfl, f, hr, fun _ h => by omega, Fr.refl _ _⟩
  case round =>
    obtain ⟨k, hk, rfl, f1, hr1, hb1, hf1⟩ := hrel
    have HB1 := Lib.hid hb1
    clear hb1
    by_cases hlt : k < m
    · obtain ⟨b, o, rfl, hF, hc⟩ := (hs.fr hf1 h0).hdr hlt
      have hNk := hN k hlt
      go_wp2_with fail
      go_loopw [4] (fun i wx => Fl1i mkIL 3 1 w m A N cp k i wx) (fun i _ => N k - (intOf i).toNat)
      case atStart => exact ⟨0, f1, Nat.zero_le _, rfl, hr1, HB1.out, (by simp [mksL]), hf1⟩
      case round =>
        obtain ⟨j, f2, hj, rfl, hr2, hb2, ht2, hf2⟩ := hrel
        have HB2 := Lib.hid hb2
        have HT2 := Lib.hid ht2
        clear hb2 ht2 hc
        obtain ⟨b', o', hB, hF', hc⟩ := (hs.fr hf2 h0).hdr hlt
        injection hB with hB
        injection hB with hB1' hB2' _
        subst hB1' hB2'
        by_cases hltj : j < N k
        · have ho := hr2 k hlt
          obtain ⟨g, hA, hho, o1⟩ := ho.at_ (by have := ho.cap_le.1; omega)
          have hcu5 : ∀ w', Nw wr w' → (∃ u, w'.cell? ⟨g, j, none⟩ = some u) ∧ w'.frozen? ⟨g, j, none⟩ = false := fun w' q => ⟨(o1.fr q (fun _ _ h => h)).cellEx (by omega), (o1.fr q (fun _ _ h => h)).frozenAt j⟩
          have hmk : ∀ n : Later wr, _ := fun n => markI_any n.at_ k j (by omega) (by omega)
          have hnx : ∀ w1, Nw wr w1 → ∀ w', w' = w1.setCell ⟨g, j, none⟩ (I64 (mkI k j)) → Fl1i mkIL 3 1 w m A N cp k (.int .i64 ((j : Int) + 1)) w' := fun w1 q w' h => Fl1i.next hmkl hfar hlt hltj (hr2.nw q) HB2.out HT2.out (hf2.tr (Nw.on q)) hA (by rw [h, Nat.mul_one]; rfl)
          obtain ⟨x, hxx⟩ : ∃ x, mkI k j = x := ⟨_, rfl⟩
          rw [hxx] at hmk hnx
          have HCU := Lib.hid hcu5
          have HMK := Lib.hid hmk
          have HNX := Lib.hid hnx
          clear hcu5 hmk hnx o1 ho hxx
          rw [hA] at hc
          have hi0 : (j : Int) < (N k : Int) := by omega
          have hi1 : decide ((j : Int) < (N k : Int)) = true := decide_eq_true hi0
          have hi2 : decide (j < N k) = true := decide_eq_true hltj
          have d1 := fun (n : Later wr) => n.cell hc
          go_wp2_with fail
          refine wp_region_later_tail 9 (by kernel_rfl) (by kernel_rfl) ?_
          simp only [List.take_succ_cons, List.take_zero, List.drop_succ_cons, List.drop_zero]
          repeat (go_big_quiet_step ((go_at_call 136; exact Later.same (HMK.out _))))
          refine wpQuiet_nil ?_
          intro w5 q5
          obtain ⟨⟨u, hcu⟩, hfz⟩ := HCU.out w5 q5
          go_wp2_with fail
          refine ⟨HNX.out w5 q5 _ rfl, ?_⟩
          simp [intOf]
          omega
        · have hfk : f2 k = mksL mkIL k (N k) := by
            have h1 := HT2.out
            have h2 := (hr2 k hlt).len
            rwa [List.take_of_length_le (by rw [h2]; exact Nat.mul_le_mul_right _ (by omega)), show j = N k by omega] at h1
          have HFK := Lib.hid hfk
          clear hfk
          obtain rfl : j = N k := by omega
          go_wp2_with fail
          go_roundw
          case rel =>
            refine ⟨k + 1, by omega, by go_num, f2, hr2, fun i hi => ?_, hf2⟩
            by_cases e : i = k
            · subst e; exact HFK.out
            · exact HB2.out i (by omega)
          case measure => simp [intOf]; omega
    · obtain rfl : m = k := by omega
      have hr2 : RowsC wr 3 1 m A N cp (fun j => mksL mkIL j (N j)) := hr1.congr HB1.out
      have hsz1 := hf1.size
      clear hr1 HB1
      go_wp2_with (at_make; refine wl_make rfl _ _ _ rfl 24 (.slice none 0 0) Tryz.underlying96 info_hi rfl .i64 .i64 _ _ m rfl rfl rfl rfl (by omega) (by unfold maxLen; omega) ?_; intro w2 ho2 q2)
      have hf2 := hf1.tr (Nw.on q2)
      have hr3 := hr2.nw q2
      have hApG : FlG mkIL 3 41 1 w m A N cp wr.heap.size (conA mkIL N) 0 w2 := ⟨_, fun _ => none, fun _ => 0, ho2, fun _ h => by omega, fun _ h => by omega, fun _ h => by omega, hr3, hf2⟩
      obtain ⟨gg, hgg⟩ : ∃ gg, wr.heap.size = gg := ⟨_, rfl⟩
      rw [hgg] at hApG hsz1 ⊢
      clear hgg hr2 hf2 hr3 ho2 q2 hf1
      go_loopw [6] (fun i wx => FlGo mkIL 3 41 1 w m A N cp gg (conA mkIL N) i wx) (fun i _ => m - (intOf i).toNat)
      case atStart => exact ⟨0, Nat.zero_le _, rfl, hApG⟩
      case round =>
        clear hApG
        obtain ⟨k, hk, rfl, hG⟩ := hrel
        obtain ⟨wo, rfl⟩ : ∃ wo : World, wo = wr := ⟨_, rfl⟩
        have hrow := hG.rows
        have hfo := hG.fr
        by_cases hlt : k < m
        · obtain ⟨b, o, rfl, hF, hc⟩ := (hs.fr hfo h0).hdr hlt
          have hNk := hN k hlt
          have hAk : ∀ b, inA (hom (A k) (cp k)) b → b < wo.heap.size := fun b hb => (hrow k hlt).lt b hb
          have hFk : ¬ inA (hom (A k) (cp k)) b := fun h => h0 b hF ⟨k, hlt, h⟩
          have hbl := World.block_lt_of_cell? _ _ hc
          go_wp2_with fail
          go_loopw [7, 8] (fun v i wx => FlXi mkIL 3 1 A N cp k wo v i wx) (fun _ i _ => 64 - (intOf i).toNat)
          case atStart => exact ⟨0, A k, cp k, by omega, rfl, rfl, Fr.refl _ _, by simpa using hrow k hlt, .inl ⟨rfl, rfl⟩, hrow k hlt⟩
          case round =>
            obtain ⟨j, X, c', hj, rfl, rfl, hX⟩ := hrel
            have hcx := (hX.1.cell (p := ⟨b, o + k, none⟩) hbl hFk).trans hc
            by_cases hltj : j < 64
            · have hmk := fun w => markI_any w k (N k + j) (by omega) (by omega)
              have hju : (((N k + j : Nat)) : Int) = (N k : Int) + (j : Int) := by omega
              rw [hju] at hmk
              have hnx := fun (w1 w' : World) (A' : Option Addr) (cap' : Nat) (q1 : Nw wr w1) (h : AppC w1 3 1 X (N k + j) c' 1 (mksL mkIL k (N k + j)) ([I64 (mkI k (N k + j))]) A' cap' w') =>
                FlX.next hX q1 (by omega) (mksL_len hmkl _ _) (by omega) (mksL_take hmkl _ _ _ (by omega)) hAk h
              have hnx2 : ∀ (w1 w' : World) (A' : Option Addr) (cap' : Nat), Nw wr w1 → AppC w1 3 1 X (N k + j) c' 1 (mksL mkIL k (N k + j)) ([I64 (mkI k (N k + j))]) A' cap' w' → FlXi mkIL 3 1 A N cp k wo (.slice A' (N k + j + 1) cap') (.int .i64 ((j : Int) + 1)) w' := fun w1 w' A' cap' q1 h =>
                ⟨j + 1, A', cap', by omega, by go_num, rfl, by have := hnx w1 w' A' cap' q1 h; have e : mksL mkIL k (N k + (j + 1)) = mksL mkIL k (N k + j) ++ [I64 (mkI k (N k + j))] := mksL_succ _ _ _; rw [e]; exact this⟩
              have hXo := hX.2.1
              have hcm : ∀ u ∈ [I64 (mkI k (N k + j))], u.oneCell' = true := by intro u hu; rw [List.mem_singleton.1 hu]; rfl
              have hcs : (mksL mkIL k (N k + j)).length = (N k + j) * 1 := mksL_len hmkl _ _
              generalize mksL mkIL k (N k + j) = con at hnx2 hXo hcs
              obtain ⟨x, hxx⟩ : ∃ x, mkI k (N k + j) = x := ⟨_, rfl⟩
              rw [hxx] at hmk hnx2 hcm
              have hlen : [I64 (x)].length = 1 * 1 := rfl
              have HMK := Lib.hid hmk
              have HNX := Lib.hid hnx2
              have HCS := Lib.hid hcs
              have HX := Lib.hid hX
              clear hmk hnx hnx2 hju hc hcs hX hxx
              go_wp2_with fail
              refine (HMK.out _).mono ?_
              rintro e w3 ⟨rfl, rfl⟩
              have q3 : Nw wr wr := Fr.refl (fun _ => False) _
              have sln := sl_new wr 3 [I64 (x)] _ rfl
              have qa : Nw wr (wr.alloc (.cells #[I64 (x)] 3)) := (Fr.refl (fun _ => False) _).alloc _
              have hoa := hXo.nw qa
              obtain ⟨V2, hV2⟩ : ∃ V, V = wr.alloc (.cells #[I64 (x)] 3) := ⟨_, rfl⟩
              rw [← hV2] at sln qa hoa
              have HV2 := Lib.hid hV2
              clear hV2
              go_wp2_with (at_builtin; rw [← HV2.out]; refine wl_appendC rfl _ _ _ rfl 8 (.int .i64 0) Tryz.underlying41 info_eI rfl (by decide) rfl hoa rfl sln hlen hcm (by omega) (by unfold maxLen; omega) (by omega) ?_; intro A' cap' w4 hap)
              go_roundw
              case rel => exact HNX.out _ _ _ _ (q3.tr qa) hap
              case measure => simp [intOf]; omega
            · obtain rfl : j = 64 := by omega
              obtain ⟨cells, hgo⟩ := hG.own
              have hng : ¬ inA (hom (A k) (cp k)) gg := fun h => by
                obtain ⟨cur0, hbg, _⟩ := hgo.blk
                exact (hrow k hlt).offB hbg (by decide) h
              have hgo2 := hgo.fr hX.1 (fun j hj h => by rw [(inA_some _ _).1 hj] at h; exact hng h)
              obtain ⟨u, hcu⟩ : ∃ u, wr.cell? ⟨gg, k, none⟩ = some u := hgo2.cellEx (by omega)
              have hfz := hgo2.frozenAt k
              have hnx := fun (w' : World) (h : w' = _) => FlG.next (w' := w') (EE := 41) (by decide) (by omega) hG hsz1 hr hfar hlt hX h
              have HNX := Lib.hid hnx
              have hi0 : (k : Int) < (m : Int) := by omega
              have HX := Lib.hid hX
              have HGG := Lib.hid hG
              clear hnx hgo hgo2 hc hcx hX hG
              go_wp2_with fail
              go_roundw
              case rel => exact ⟨k + 1, by omega, by go_num, HNX.out _ rfl⟩
              case measure => simp [intOf]; omega
        · obtain rfl : m = k := by omega
          go_wp2_with fail
          go_loopw [9] (fun i wx => KnownNw wo m i wx) (fun i _ => m - (intOf i).toNat)
          case atStart => exact ⟨0, Nat.zero_le _, rfl, Fr.refl _ _⟩
          case round =>
            obtain ⟨k, hk, rfl, hq⟩ := hrel
            obtain ⟨wp, rfl⟩ : ∃ wp : World, wp = wr := ⟨_, rfl⟩
            by_cases hlt : k < m
            · obtain ⟨X, c', hgc, hgx⟩ := hG.cells hlt
              have hNk := hN k hlt
              have hgc2 := (hq.cell (p := ⟨gg, k, none⟩) (World.block_lt_of_cell? _ _ hgc) (fun h => h)).trans hgc
              have HGX := Lib.hid hgx
              clear hgc hgx
              have hi0 : (k : Int) < (m : Int) := by omega
              go_wp2_with fail
              go_loopw [10] (fun i wx => KnownNw wp (N k + 64) i wx) (fun i _ => N k + 64 - (intOf i).toNat)
              case atStart => exact ⟨0, Nat.zero_le _, rfl, Fr.refl _ _⟩
              case round =>
                obtain ⟨j, hj, rfl, hq2⟩ := hrel
                have hgc3 := (hq2.cell (p := ⟨gg, k, none⟩) (World.block_lt_of_cell? _ _ hgc2) (fun h => h)).trans hgc2
                by_cases hltj : j < N k + 64
                · obtain ⟨g, rfl, hcx⟩ := grown_cells (z := 1) (l := mkIL k j) rfl (by omega) HGX.out (conA_at hmkl N k j hltj)
                  have hcx2 := cells_nw hcx (hq.tr hq2)
                  obtain ⟨b, o, rfl, hF, hc⟩ := ((hs.fr hfo h0).fr (hq.tr hq2) (fun _ _ h => h)).hdr hlt
                  have hmk : ∀ n : Later wr, _ := fun n => markI_any n.at_ k j (by omega) (by omega)
                  have hlk := fun (h : j < N k) => (hrow.nw (hq.tr hq2)).cell hmkl hlt h
                  have hMK : mkIL k j = [I64 (mkI k j)] := rfl
                  rw [hMK] at hcx2 hlk
                  obtain ⟨x, hxx⟩ : ∃ x, mkI k j = x := ⟨_, rfl⟩
                  rw [hxx] at hmk hcx2 hlk
                  have HMK := Lib.hid hmk
                  have HLK := Lib.hid hlk
                  have d2 := fun (n : Later wr) => n.cell (show wr.cell? ⟨g, j, none⟩ = some (I64 (x)) by have h := hcx2 0 _ rfl; rwa [Nat.mul_one] at h)
                  clear hmk hcx hcx2 hlk hMK hxx
                  have hi1 : (j : Int) < (N k : Int) + 64 := by omega
                  have hi4 : decide ((j : Int) < (N k : Int) + 64) = true := decide_eq_true hi1
                  have hi5 : decide (j < N k + 64) = true := decide_eq_true hltj
                  have d1 := fun (n : Later wr) => n.cell hgc3
                  have d3 := fun (n : Later wr) => n.cell hc
                  by_cases hjk : j < N k
                  · obtain ⟨g2, hA2, hcl⟩ := HLK.out hjk
                    rw [hA2] at d3
                    have d4 := fun (n : Later wr) => n.cell (show wr.cell? ⟨g2, j, none⟩ = some (I64 (x)) by have h := hcl 0 _ rfl; rwa [Nat.mul_one] at h)
                    have hi2 : (j : Int) < (N k : Int) := by omega
                    have hi6 : decide ((j : Int) < (N k : Int)) = true := decide_eq_true hi2
                    have hi7 : decide (j < N k) = true := decide_eq_true hjk
                    clear hcl hc HLK
                    go_wp2_with fail
                    refine wp_region_later (by kernel_rfl) (by kernel_rfl) ?_
                    repeat (go_big_quiet_step ((go_at_call 136; exact Later.same (HMK.out _))))
                    refine wpQuiet_later fun w5 q5 => ?_
                    clear d1 d2 d3
                    go_wp2_with fail
                    go_roundw
                    case rel => exact ⟨j + 1, by omega, by go_num, hq2.tr q5⟩
                    case measure => simp [intOf]; omega
                  · have hi2 : decide ((j : Int) < (N k : Int)) = false := decide_eq_false (by omega)
                    have hi3 : decide (j < N k) = false := decide_eq_false (by omega)
                    clear hc HLK
                    go_wp2_with fail
                    refine wp_region_later (by kernel_rfl) (by kernel_rfl) ?_
                    repeat (go_big_quiet_step ((go_at_call 136; exact Later.same (HMK.out _))))
                    refine wpQuiet_later fun w5 q5 => ?_
                    clear d1 d2 d3
                    go_wp2_with fail
                    go_roundw
                    case rel => exact ⟨j + 1, by omega, by go_num, hq2.tr q5⟩
                    case measure => simp [intOf]; omega
                · obtain rfl : j = N k + 64 := by omega
                  go_wp2_with fail
                  go_roundw
                  case rel => exact ⟨k + 1, by omega, by go_num, hq.tr hq2⟩
                  case measure => simp [intOf]; omega
            · obtain rfl : m = k := by omega
              obtain ⟨cells, hgo⟩ := hG.own
              have hgo2 := hgo.fr hq (fun _ _ h => h)
              have hrow2 := hrow.nw hq
              have hfo2 := hfo.tr (Nw.on hq)
              have hA2 : FlG mkIL 3 41 1 w m A N cp gg (conB mkIL m N) 0 wp := ⟨cells, fun _ => none, fun _ => 0, hgo2, fun _ h => by omega, fun _ h => by omega, fun _ h => by omega, hrow2, hfo2⟩
              clear hG hrow hfo hgo hgo2 hrow2 hfo2 hq
              go_wp2_with fail
              go_loopw [11] (fun i wx => FlGo mkIL 3 41 1 w m A N cp gg (conB mkIL m N) i wx) (fun i _ => m - (intOf i).toNat)
              case atStart => exact ⟨0, Nat.zero_le _, rfl, hA2⟩
              case round =>
                clear hA2
                obtain ⟨k, hk, rfl, hG⟩ := hrel
                obtain ⟨wo, rfl⟩ : ∃ wo : World, wo = wr := ⟨_, rfl⟩
                have hrow := hG.rows
                have hfo := hG.fr
                by_cases hlt : k < m
                · obtain ⟨b, o, rfl, hF, hc⟩ := (hs.fr hfo h0).hdr hlt
                  have hNk := hN k hlt
                  have hAk : ∀ b, inA (hom (A k) (cp k)) b → b < wo.heap.size := fun b hb => (hrow k hlt).lt b hb
                  have hbl := World.block_lt_of_cell? _ _ hc
                  go_wp2_with (at_make; refine wl_makeZ rfl _ _ _ rfl 8 (.int .i64 0) Tryz.underlying41 info_eI .i64 .i64 _ _ 64 rfl rfl rfl rfl (by omega) (by unfold maxLen; omega) ?_; intro wy csy hoy qy)
                  obtain ⟨gm, hgm⟩ : ∃ gm, wo.heap.size = gm := ⟨_, rfl⟩
                  have hgm2 : wo.heap.size ≤ gm := Nat.le_of_eq hgm
                  rw [hgm] at hoy ⊢
                  clear hgm
                  have HOY := Lib.hid hoy
                  clear hoy
                  go_wp2_with fail
                  go_loopw [13] (fun i wx => ManyL mkIL 3 1 (k + m) gm wy i wx) (fun i _ => 64 - (intOf i).toNat)
                  case atStart => exact ⟨0, csy, by omega, rfl, HOY.out, (by simp [mksL]), Fr.refl _ _⟩
                  case round =>
                    obtain ⟨j, cs, hj, rfl, hom_, ht, hfm⟩ := hrel
                    have HT := Lib.hid ht
                    clear ht HOY
                    have hcl : cs.length = 64 * 1 := hom_.1
                    have HCL := Lib.hid hcl
                    clear hcl
                    by_cases hltj : j < 64
                    · have hmk := fun w => markI_any w (k + m) j (by omega) (by omega)
                      have hju : ((k + m : Nat) : Int) = (k : Int) + (m : Int) := by omega
                      rw [hju] at hmk
                      have hnx : ∀ w', w' = wr.setCell ⟨gm, j, none⟩ (I64 (mkI (k + m) j)) → ManyL mkIL 3 1 (k + m) gm wy (.int .i64 ((j : Int) + 1)) w' := fun w' h => ManyL.next (w' := w') hmkl hom_ HT.out hfm hltj (by rw [h, Nat.mul_one]; rfl)
                      obtain ⟨x, hxx⟩ : ∃ x, mkI (k + m) j = x := ⟨_, rfl⟩
                      rw [hxx] at hmk hnx
                      have HMK := Lib.hid hmk
                      have HNX := Lib.hid hnx
                      obtain ⟨u, hcu⟩ : ∃ u, wr.cell? ⟨gm, j, none⟩ = some u := hom_.cellEx (by omega)
                      have hfz := hom_.frozenAt j
                      clear hmk hnx hju hxx
                      have hi0 : (j : Int) < 64 := by omega
                      have hi1 : decide ((j : Int) < 64) = true := decide_eq_true hi0
                      have hi2 : decide (j < 64) = true := decide_eq_true hltj
                      go_wp2_with (go_at_call 136; refine (HMK.out _).mono ?_; rintro e w3 ⟨rfl, rfl⟩)
                      refine ⟨HNX.out _ rfl, ?_⟩
                      simp [intOf]
                      omega
                    · obtain rfl : j = 64 := by omega
                      have hcs : cs = mksL mkIL (k + m) 64 := by
                        have := HT.out
                        rwa [List.take_of_length_le (by rw [HCL.out]; omega)] at this
                      subst hcs
                      clear HT HCL
                      have hx0 : FlX mkIL 3 1 A N cp k wo (mksL mkIL k (N k)) (A k) (N k) (cp k) wr := by
                        have hf9 : Fr (inA (hom (A k) (cp k))) wo wr := (Nw.on qy).trans hfm (fun j hj => .inr (by rw [hj]; exact hgm2))
                        have ho9 := ((hrow k hlt).fr qy (fun _ _ h => h)).fr hfm (fun j hj e => by have := hAk j hj; omega)
                        exact ⟨hf9, ho9, .inl ⟨rfl, rfl⟩, ho9⟩
                      have hFk : ¬ inA (hom (A k) (cp k)) b := fun h => h0 b hF ⟨k, hlt, h⟩
                      have hcx := (hx0.1.cell (p := ⟨b, o + k, none⟩) hbl hFk).trans hc
                      have hnx := fun (w' : World) (A' : Option Addr) (cap' : Nat) (h : AppC wr 3 1 (A k) (N k) (cp k) 64 (mksL mkIL k (N k)) (mksL mkIL (k + m) 64) A' cap' w') =>
                        FlX.next hx0 (Fr.refl _ _) (by omega) (mksL_len hmkl _ _) (Nat.le_refl _) (mksL_take hmkl _ _ _ (Nat.le_refl _)) hAk h
                      have hXo := hx0.2.1
                      have hml : (mksL mkIL (k + m) 64).length = 64 * 1 := mksL_len hmkl _ _
                      have hcm : ∀ u ∈ mksL mkIL (k + m) 64, u.oneCell' = true := by
                        intro u hu
                        obtain ⟨l, hl, hu⟩ := List.mem_flatten.1 hu
                        obtain ⟨i, _, rfl⟩ := List.mem_map.1 hl
                        rw [List.mem_singleton.1 hu]; rfl
                      have HCM := Lib.hid hcm
                      have HML := Lib.hid hml
                      clear hml hc hcm
                      obtain ⟨cells2, hgo⟩ := hG.own
                      have hng : ∀ j, inA (some ⟨gg, 0, none⟩) j → ¬ inA (hom (A k) (cp k)) j := fun j hj h => by
                        rw [(inA_some _ _).1 hj] at h
                        obtain ⟨cur0, hbg, _⟩ := hgo.blk
                        exact (hrow k hlt).offB hbg (by decide) h
                      have hfin : ∀ (A' : Option Addr) (cap' : Nat) (w4 : World), AppC wr 3 1 (A k) (N k) (cp k) 64 (mksL mkIL k (N k)) (mksL mkIL (k + m) 64) A' cap' w4 →
                          (∃ u, w4.cell? ⟨gg, k, none⟩ = some u) ∧ w4.frozen? ⟨gg, k, none⟩ = false ∧ FlGo mkIL 3 41 1 w m A N cp gg (conB mkIL m N) (.int .i64 ((k : Int) + 1)) (w4.setCell ⟨gg, k, none⟩ (.slice A' (N k + 64) cap')) := fun A' cap' w4 hap => by
                        have hx4 := hnx w4 A' cap' hap
                        have hgo4 := hgo.fr hx4.1 hng
                        exact ⟨hgo4.cellEx (by omega), hgo4.frozenAt k, k + 1, by omega, by go_num, FlG.next (EE := 41) (by decide) (by omega) hG hsz1 hr hfar hlt hx4 rfl⟩
                      have HFIN := Lib.hid hfin
                      have hsl := hom_.sl
                      have HG2 := Lib.hid hG
                      have HR2 := Lib.hid hr
                      have HX0 := Lib.hid hx0
                      obtain ⟨con, hcon⟩ : ∃ con, mksL mkIL k (N k) = con := ⟨_, rfl⟩
                      obtain ⟨news, hnews⟩ : ∃ con, mksL mkIL (k + m) 64 = con := ⟨_, rfl⟩
                      rw [hcon] at hXo HFIN
                      rw [hnews] at hsl HML HCM HFIN
                      clear hcon hnews hnx hng hfin hG hr hx0
                      have hi0 : (k : Int) < (m : Int) := by omega
                      go_wp2_with (at_builtin; refine wl_appendC rfl _ _ _ rfl 8 (.int .i64 0) Tryz.underlying41 info_eI rfl (by decide) rfl hXo rfl hsl HML.out HCM.out (by omega) (by unfold maxLen; omega) (by omega) ?_; intro A' cap' w4 hap; obtain ⟨⟨u, hcu⟩, hfz, hrel9⟩ := HFIN.out A' cap' w4 hap; have HREL := Lib.hid hrel9; clear hrel9)
                      go_roundw
                      case rel => exact HREL.out
                      case measure => simp [intOf]; omega
                · obtain rfl : m = k := by omega
                  go_wp2_with fail
                  go_loopw [14] (fun i wx => KnownNw wo m i wx) (fun i _ => m - (intOf i).toNat)
                  case atStart => exact ⟨0, Nat.zero_le _, rfl, Fr.refl _ _⟩
                  case round =>
                    obtain ⟨k, hk, rfl, hq⟩ := hrel
                    obtain ⟨wp, rfl⟩ : ∃ wp : World, wp = wr := ⟨_, rfl⟩
                    by_cases hlt : k < m
                    · obtain ⟨X, c', hgc, hgx⟩ := hG.cells hlt
                      have hNk := hN k hlt
                      have HGX := Lib.hid hgx
                      clear hgx
                      have hi0 : (k : Int) < (m : Int) := by omega
                      have hs5 := hs.fr hfo h0
                      obtain ⟨b, o, rfl, hF, hc⟩ := hs5.hdr hlt
                      have hcp := (hq.cell (p := ⟨b, o + k, none⟩) (World.block_lt_of_cell? _ _ hc) (fun h => h)).trans hc
                      go_wp2_with fail
                      go_loopw [15] (fun i wx => KnownNw wp (N k) i wx) (fun i _ => N k - (intOf i).toNat)
                      case atStart => exact ⟨0, Nat.zero_le _, rfl, Fr.refl _ _⟩
                      case round =>
                        obtain ⟨j, hj, rfl, hq2⟩ := hrel
                        have hcr := (hq2.cell (p := ⟨b, o + k, none⟩) (World.block_lt_of_cell? _ _ hcp) (fun h => h)).trans hcp
                        by_cases hltj : j < N k
                        · obtain ⟨g, rfl, hcx⟩ := grown_cells (z := 1) (l := mkIL k j) rfl (by omega) HGX.out (conB_at' hmkl m N k j hltj)
                          have hcx2 := cells_nw hcx (hq.tr hq2)
                          have hgc2 := ((hq.tr hq2).cell (p := ⟨gg, k, none⟩) (World.block_lt_of_cell? _ _ hgc) (fun h => h)).trans hgc
                          have hmk : ∀ n : Later wr, _ := fun n => markI_any n.at_ k j (by omega) (by omega)
                          obtain ⟨g2, hA2, hcl⟩ := (hrow.nw (hq.tr hq2)).cell hmkl hlt hltj
                          have hMK : mkIL k j = [I64 (mkI k j)] := rfl
                          rw [hMK] at hcx2 hcl
                          obtain ⟨x, hxx⟩ : ∃ x, mkI k j = x := ⟨_, rfl⟩
                          rw [hxx] at hmk hcx2 hcl
                          have HMK := Lib.hid hmk
                          have d2 := fun (n : Later wr) => n.cell (show wr.cell? ⟨g, j, none⟩ = some (I64 (x)) by have h := hcx2 0 _ rfl; rwa [Nat.mul_one] at h)
                          have d4 := fun (n : Later wr) => n.cell (show wr.cell? ⟨g2, j, none⟩ = some (I64 (x)) by have h := hcl 0 _ rfl; rwa [Nat.mul_one] at h)
                          rw [hA2] at hcr
                          have d1 := fun (n : Later wr) => n.cell hgc2
                          have d3 := fun (n : Later wr) => n.cell hcr
                          clear hmk hcx hcx2 hcl hMK hxx hgc hc hcp
                          have hi1 : (j : Int) < (N k : Int) + 64 := by omega
                          have hi2 : (j : Int) < (N k : Int) := by omega
                          have hi6 : decide ((j : Int) < (N k : Int)) = true := decide_eq_true hi2
                          have hi7 : decide (j < N k) = true := decide_eq_true hltj
                          have hi8 : decide ((j : Int) < (N k : Int) + 64) = true := decide_eq_true hi1
                          have hi9 : decide (j < N k + 64) = true := decide_eq_true (by omega)
                          go_wp2_with fail
                          refine wp_region_later (by kernel_rfl) (by kernel_rfl) ?_
                          repeat (go_big_quiet_step ((go_at_call 136; exact Later.same (HMK.out _))))
                          refine wpQuiet_later fun w5 q5 => ?_
                          clear d1 d2 d3 d4
                          go_wp2_with fail
                          go_roundw
                          case rel => exact ⟨j + 1, by omega, by go_num, hq2.tr q5⟩
                          case measure => simp [intOf]; omega
                        · obtain rfl : j = N k := by omega
                          go_wp2_with fail
                          go_roundw
                          case rel => exact ⟨k + 1, by omega, by go_num, hq.tr hq2⟩
                          case measure => simp [intOf]; omega
                    · go_wp2_with fail
                      go_ret
                      exact ⟨rfl, hfo.tr (Nw.on hq)⟩
end Go.Proofs.YtippdjaakcgeoaaGreat
