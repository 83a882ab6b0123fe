/- LetterSame: the walk. (Printed by genls.py.) -/
import Derived.Test.YtippdjaakcgeoaaLsA
import Derived.Test.YtippdjaakcgeoaaClE
import Derived.Test.YtippdjaakcgeoaaLaA
namespace Go.Proofs.Ytippdjaakcgeoaa
open Go Go.RowKit
set_option linter.unusedVariables false
set_option linter.unusedSimpArgs false
theorem lets_sl {w w' : World} {g : Nat} (xs : List LetM) (hg : g = w.heap.size) (hw : w' = w.alloc (.cells (xs.map letL).flatten.toArray 40)) : Nw w w' ∧ Sl w' (· = g) (some ⟨g, 0, none⟩) (letsC xs) := by
  subst hg
  subst hw
  refine ⟨(Fr.refl (fun _ => False) w).alloc _, ?_⟩
  have h := (Blk.new w 40 (xs.map letL).flatten.toArray).sl 0 (xs.map letL).flatten.length
  rw [List.drop_zero, List.take_of_length_le (by simp)] at h
  exact h
/-- What holds while a copy is written over. -/
structure OvInv (W wr : World) (S : Nat → Prop) (c : LetM) : Prop where
  fr : Fr S W wr
  ents : ∃ zs, SameBut c.ents.l zs ∧ Own wr 60 7 c.ents.a c.ents.l.length c.ents.c (entsC zs)
  cmd : ∀ e ∈ c.ents.l, U8At wr e.cmd
  bytes : U8At wr c.bytes
  v : IntAt wr c.base.cfg.v
/-- A byte of one of its rows is written over. -/
theorem OvInv.u8 {W wr : World} {S : Nat → Prop} {c : LetM} (h : OvInv W wr S c) {g : Nat} {cur : Array Value} (hb : Blk wr g 5 cur) (hS : S g) (i : Nat) (v : UInt8) : OvInv W (wr.setCell ⟨g, i, none⟩ (B8 v)) S c := by
  refine ⟨h.fr.setCell (p := ⟨g, i, none⟩) (.inl hS) _, ?_, fun e he => (h.cmd e he).set_ hb i ⟨v, rfl⟩, h.bytes.set_ hb i ⟨v, rfl⟩, h.v.off hb (by decide) i _⟩
  obtain ⟨zs, h1, h2⟩ := h.ents
  exact ⟨zs, h1, h2.setCell (p := ⟨g, i, none⟩) (h2.ne_ hb (by decide)) _⟩
theorem OvInv.int {W wr : World} {S : Nat → Prop} {c : LetM} (h : OvInv W wr S c) {g : Nat} {cur : Array Value} (hb : Blk wr g 3 cur) (hS : S g) (i : Nat) (v : Int) : OvInv W (wr.setCell ⟨g, i, none⟩ (I64 v)) S c := by
  refine ⟨h.fr.setCell (p := ⟨g, i, none⟩) (.inl hS) _, ?_, fun e he => (h.cmd e he).off hb (by decide) i _, h.bytes.off hb (by decide) i _, h.v.set_ hb i ⟨v, rfl⟩⟩
  obtain ⟨zs, h1, h2⟩ := h.ents
  exact ⟨zs, h1, h2.setCell (p := ⟨g, i, none⟩) (h2.ne_ hb (by decide)) _⟩
/-- A term of one of its entries. -/
theorem OvInv.term {W wr : World} {S : Nat → Prop} {c : LetM} (h : OvInv W wr S c) {g : Nat} (hg : c.ents.a = some ⟨g, 0, none⟩) (hS : S g) {k : Nat} (hk : k < c.ents.l.length) (t : Int) : OvInv W (wr.setCell ⟨g, k * 7, none⟩ (I64 t)) S c := by
  obtain ⟨zs, h1, h2⟩ := h.ents
  obtain ⟨cur, hb, _⟩ := (hg ▸ h2 : Own wr 60 7 (some ⟨g, 0, none⟩) c.ents.l.length c.ents.c (entsC zs)).blk
  refine ⟨h.fr.setCell (p := ⟨g, k * 7, none⟩) (.inl hS) _, ⟨_, h1.set_ k (by rw [h1.1]; exact hk) t, ?_⟩, fun e he => (h.cmd e he).off hb (by decide) _ _, h.bytes.off hb (by decide) _ _, h.v.off hb (by decide) _ _⟩
  rw [← entsC_set, hg]
  exact (hg ▸ h2 : Own wr 60 7 (some ⟨g, 0, none⟩) c.ents.l.length c.ents.c (entsC zs)).store _ _
/-- An entry's cells: its term, its command. -/
theorem OvInv.entry {W wr : World} {S : Nat → Prop} {c : LetM} (h : OvInv W wr S c) {k : Nat} (hk : k < c.ents.l.length) : ∃ g t, c.ents.a = some ⟨g, 0, none⟩ ∧ wr.cell? ⟨g, k * 7, none⟩ = some (I64 t) ∧ wr.cell? ⟨g, k * 7 + 2, none⟩ = some (.slice (c.ents.l[k]).cmd.a (c.ents.l[k]).cmd.l.length (c.ents.l[k]).cmd.c) ∧ wr.frozen? ⟨g, k * 7, none⟩ = false := by
  obtain ⟨zs, h1, h2⟩ := h.ents
  have hkz : k < zs.length := by rw [h1.1]; exact hk
  obtain ⟨g, o, hA, _, _, hc⟩ := Sl.ent h2.sl hkz
  have ho : o = 0 := by
    rcases h2.2 with ⟨_, h, _⟩ | ⟨g2, cur, h, _⟩
    · omega
    · rw [h] at hA
      injection hA with hA
      injection hA with _ h2
      exact h2.symm
  subst ho
  simp only [Nat.zero_add] at hc
  have e2 := h1.2 k hkz hk
  refine ⟨g, zs[k].term, hA, hc 0 _ rfl, ?_, (hA ▸ h2 : Own wr 60 7 (some ⟨g, 0, none⟩) c.ents.l.length c.ents.c (entsC zs)).frozenAt _⟩
  have := hc 2 _ rfl
  rw [e2] at this
  exact this
def LoA (W : World) (S : Nat → Prop) (c : LetM) (i : Value) (wr : World) : Prop := ∃ k : Nat, k ≤ c.ents.l.length ∧ i = .int .i64 k ∧ OvInv W wr S c
def LoN (W : World) (S : Nat → Prop) (c : LetM) (n : Nat) (i : Value) (wr : World) : Prop := ∃ k : Nat, k ≤ n ∧ i = .int .i64 k ∧ OvInv W wr S c
set_option maxRecDepth 100000 in
set_option maxHeartbeats 16000000 in
theorem lsame_walk (W : World) (F : Nat → Prop) (a b : LetM) (ha : LetIn W F a) (hb : LetIn W F b) (bda : LetBd a) (bdb : LetBd b) :
    Calls Try.prog 4 #[.agg (letA a), .agg (letA b)] W fun e w' => e = .returned (.bool true) ∧ Nw W w' := by
  obtain ⟨G1, hG1⟩ : ∃ X, X = W.heap.size := ⟨_, rfl⟩
  obtain ⟨G2, hG2⟩ : ∃ Y, Y = W.heap.size + 1 := ⟨_, rfl⟩
  obtain ⟨W0, hW0⟩ : ∃ V, V = W.alloc (.cells #[U8V a.kind, I64 a.group, I64 a.src, I64 a.dst, I64 a.term, I64 a.index, I64 a.logt, I64 a.commit, .bool a.ok, .slice a.ents.a a.ents.l.length a.ents.c, I64 a.base.index, I64 a.base.term, .slice a.base.cfg.v.a a.base.cfg.v.l.length a.base.cfg.v.c, .slice a.base.cfg.o.a a.base.cfg.o.l.length a.base.cfg.o.c, .slice a.base.cfg.l.a a.base.cfg.l.l.length a.base.cfg.l.c, .slice a.base.cfg.w.a a.base.cfg.w.l.length a.base.cfg.w.c, I64 a.size, I64 a.at_, I64 a.tag, .slice a.bytes.a a.bytes.l.length a.bytes.c] 40) := ⟨_, rfl⟩
  have p0 : Nw W W0 := by rw [hW0]; exact (Fr.refl (fun _ => False) _).alloc _
  have x0 : Blk W0 G1 40 #[U8V a.kind, I64 a.group, I64 a.src, I64 a.dst, I64 a.term, I64 a.index, I64 a.logt, I64 a.commit, .bool a.ok, .slice a.ents.a a.ents.l.length a.ents.c, I64 a.base.index, I64 a.base.term, .slice a.base.cfg.v.a a.base.cfg.v.l.length a.base.cfg.v.c, .slice a.base.cfg.o.a a.base.cfg.o.l.length a.base.cfg.o.c, .slice a.base.cfg.l.a a.base.cfg.l.l.length a.base.cfg.l.c, .slice a.base.cfg.w.a a.base.cfg.w.l.length a.base.cfg.w.c, I64 a.size, I64 a.at_, I64 a.tag, .slice a.bytes.a a.bytes.l.length a.bytes.c] := by rw [hW0, hG1]; exact Blk.new _ _ _
  have hz0 : W0.heap.size = G2 := by rw [hW0, hG2]; simp
  obtain ⟨W1, hW1⟩ : ∃ V, V = W0.alloc (.cells #[U8V b.kind, I64 b.group, I64 b.src, I64 b.dst, I64 b.term, I64 b.index, I64 b.logt, I64 b.commit, .bool b.ok, .slice b.ents.a b.ents.l.length b.ents.c, I64 b.base.index, I64 b.base.term, .slice b.base.cfg.v.a b.base.cfg.v.l.length b.base.cfg.v.c, .slice b.base.cfg.o.a b.base.cfg.o.l.length b.base.cfg.o.c, .slice b.base.cfg.l.a b.base.cfg.l.l.length b.base.cfg.l.c, .slice b.base.cfg.w.a b.base.cfg.w.l.length b.base.cfg.w.c, I64 b.size, I64 b.at_, I64 b.tag, .slice b.bytes.a b.bytes.l.length b.bytes.c] 40) := ⟨_, rfl⟩
  have p1 : Nw W0 W1 := by rw [hW1]; exact (Fr.refl (fun _ => False) _).alloc _
  have y1 : Blk W1 G2 40 #[U8V b.kind, I64 b.group, I64 b.src, I64 b.dst, I64 b.term, I64 b.index, I64 b.logt, I64 b.commit, .bool b.ok, .slice b.ents.a b.ents.l.length b.ents.c, I64 b.base.index, I64 b.base.term, .slice b.base.cfg.v.a b.base.cfg.v.l.length b.base.cfg.v.c, .slice b.base.cfg.o.a b.base.cfg.o.l.length b.base.cfg.o.c, .slice b.base.cfg.l.a b.base.cfg.l.l.length b.base.cfg.l.c, .slice b.base.cfg.w.a b.base.cfg.w.l.length b.base.cfg.w.c, I64 b.size, I64 b.at_, I64 b.tag, .slice b.bytes.a b.bytes.l.length b.bytes.c] := by rw [hW1, ← hz0]; exact Blk.new _ _ _
  have x1 := x0.fr p1 (fun h => h)
  have Q1 : Nw W W1 := p0.tr p1
  have hG1w : W.heap.size ≤ G1 := by omega
  have hG2w : W.heap.size ≤ G2 := by omega
  have HG1 := Lib.hid hG1
  have HG2 := Lib.hid hG2
  have HW0 := Lib.hid hW0
  have HW1 := Lib.hid hW1
  clear hG1 hG2 hW0 hW1 hz0 x0
  go_enter Try.func4, Try.ntmps4
  go_upto_region 1 with (fail)
  rw [← HG2.out, ← HG1.out, ← HW0.out, ← HW1.out]
  go_upto_region 3 with (go_at_call 21; refine (awake_any _).mono ?_; rintro e w2 ⟨rfl, q2⟩)
  have x2 := x1.fr q2 (fun h => h)
  have y2 := y1.fr q2 (fun h => h)
  have Q2 := Q1.tr q2
  have lx2 := Blk.cells_at (l := [U8V a.kind, I64 a.group, I64 a.src, I64 a.dst, I64 a.term, I64 a.index, I64 a.logt, I64 a.commit, .bool a.ok, .slice a.ents.a a.ents.l.length a.ents.c, I64 a.base.index, I64 a.base.term, .slice a.base.cfg.v.a a.base.cfg.v.l.length a.base.cfg.v.c, .slice a.base.cfg.o.a a.base.cfg.o.l.length a.base.cfg.o.c, .slice a.base.cfg.l.a a.base.cfg.l.l.length a.base.cfg.l.c, .slice a.base.cfg.w.a a.base.cfg.w.l.length a.base.cfg.w.c, I64 a.size, I64 a.at_, I64 a.tag, .slice a.bytes.a a.bytes.l.length a.bytes.c]) x2 0
  have ly2 := Blk.cells_at (l := [U8V b.kind, I64 b.group, I64 b.src, I64 b.dst, I64 b.term, I64 b.index, I64 b.logt, I64 b.commit, .bool b.ok, .slice b.ents.a b.ents.l.length b.ents.c, I64 b.base.index, I64 b.base.term, .slice b.base.cfg.v.a b.base.cfg.v.l.length b.base.cfg.v.c, .slice b.base.cfg.o.a b.base.cfg.o.l.length b.base.cfg.o.c, .slice b.base.cfg.l.a b.base.cfg.l.l.length b.base.cfg.l.c, .slice b.base.cfg.w.a b.base.cfg.w.l.length b.base.cfg.w.c, I64 b.size, I64 b.at_, I64 b.tag, .slice b.bytes.a b.bytes.l.length b.bytes.c]) y2 0
  go_wp2_with (first | (refine wl_load_cells rfl 40 _ rfl G1 0 rfl [U8V a.kind, I64 a.group, I64 a.src, I64 a.dst, I64 a.term, I64 a.index, I64 a.logt, I64 a.commit, .bool a.ok, .slice a.ents.a a.ents.l.length a.ents.c, I64 a.base.index, I64 a.base.term, .slice a.base.cfg.v.a a.base.cfg.v.l.length a.base.cfg.v.c, .slice a.base.cfg.o.a a.base.cfg.o.l.length a.base.cfg.o.c, .slice a.base.cfg.l.a a.base.cfg.l.l.length a.base.cfg.l.c, .slice a.base.cfg.w.a a.base.cfg.w.l.length a.base.cfg.w.c, I64 a.size, I64 a.at_, I64 a.tag, .slice a.bytes.a a.bytes.l.length a.bytes.c] _ lx2 Try.underlying40 rfl (by kernel_rfl) ?_) | (refine wl_load_cells rfl 40 _ rfl G2 0 rfl [U8V b.kind, I64 b.group, I64 b.src, I64 b.dst, I64 b.term, I64 b.index, I64 b.logt, I64 b.commit, .bool b.ok, .slice b.ents.a b.ents.l.length b.ents.c, I64 b.base.index, I64 b.base.term, .slice b.base.cfg.v.a b.base.cfg.v.l.length b.base.cfg.v.c, .slice b.base.cfg.o.a b.base.cfg.o.l.length b.base.cfg.o.c, .slice b.base.cfg.l.a b.base.cfg.l.l.length b.base.cfg.l.c, .slice b.base.cfg.w.a b.base.cfg.w.l.length b.base.cfg.w.c, I64 b.size, I64 b.at_, I64 b.tag, .slice b.bytes.a b.bytes.l.length b.bytes.c] _ ly2 Try.underlying40 rfl (by kernel_rfl) ?_) | (refine wl_build rfl 27 2 _ 20 [letL a, letL b] (.agg #[U8V 0, I64 0, I64 0, I64 0, I64 0, I64 0, I64 0, I64 0, .bool false, .slice none 0 0, I64 0, I64 0, .slice none 0 0, .slice none 0 0, .slice none 0 0, .slice none 0 0, I64 0, I64 0, I64 0, .slice none 0 0]) rfl Try.underlying27 (by kernel_rfl) rfl (by decide) (by decide) (by simp) (by decide) rfl ?_; intro g3 w3 hg3 hw3; obtain ⟨q3, s3⟩ := lets_sl [a, b] hg3 hw3; clear hg3 hw3))
  refine (great_any w3 (fun j => F j ∨ j = g3) (some ⟨g3, 0, none⟩) 2 [a, b] (s3.mono fun j h _ => .inr h) (fun x hx => ?_) (fun x hx => ?_) (by simp)).mono ?_
  · simp only [List.mem_cons, List.not_mem_nil, or_false] at hx
    rcases hx with rfl | rfl
    · exact ((ha.nw Q2).nw q3).mono fun j h _ => .inl h
    · exact ((hb.nw Q2).nw q3).mono fun j h _ => .inl h
  · simp only [List.mem_cons, List.not_mem_nil, or_false] at hx
    rcases hx with rfl | rfl
    · exact bda
    · exact bdb
  rintro e w4 ⟨gr, rfl, hgr, q4⟩
  have Q4 := (Q2.tr q3).tr q4
  have x4 := (x2.fr q3 (fun h => h)).fr q4 (fun h => h)
  have y4 := (y2.fr q3 (fun h => h)).fr q4 (fun h => h)
  clear lx2 ly2 s3 x1 y1 x2 y2
  cases gr with
  | true =>
    go_wp2_with fail
    go_ret
    exact ⟨rfl, Q4⟩
  | false =>
    obtain ⟨_, hsm⟩ := hgr rfl
    have sza := (hsm a (by simp)).sz (by omega)
    have szb := (hsm b (by simp)).sz (by omega)
    have lx4 := Blk.cells_at (l := [U8V a.kind, I64 a.group, I64 a.src, I64 a.dst, I64 a.term, I64 a.index, I64 a.logt, I64 a.commit, .bool a.ok, .slice a.ents.a a.ents.l.length a.ents.c, I64 a.base.index, I64 a.base.term, .slice a.base.cfg.v.a a.base.cfg.v.l.length a.base.cfg.v.c, .slice a.base.cfg.o.a a.base.cfg.o.l.length a.base.cfg.o.c, .slice a.base.cfg.l.a a.base.cfg.l.l.length a.base.cfg.l.c, .slice a.base.cfg.w.a a.base.cfg.w.l.length a.base.cfg.w.c, I64 a.size, I64 a.at_, I64 a.tag, .slice a.bytes.a a.bytes.l.length a.bytes.c]) x4 0
    have ly4 := Blk.cells_at (l := [U8V b.kind, I64 b.group, I64 b.src, I64 b.dst, I64 b.term, I64 b.index, I64 b.logt, I64 b.commit, .bool b.ok, .slice b.ents.a b.ents.l.length b.ents.c, I64 b.base.index, I64 b.base.term, .slice b.base.cfg.v.a b.base.cfg.v.l.length b.base.cfg.v.c, .slice b.base.cfg.o.a b.base.cfg.o.l.length b.base.cfg.o.c, .slice b.base.cfg.l.a b.base.cfg.l.l.length b.base.cfg.l.c, .slice b.base.cfg.w.a b.base.cfg.w.l.length b.base.cfg.w.c, I64 b.size, I64 b.at_, I64 b.tag, .slice b.bytes.a b.bytes.l.length b.bytes.c]) y4 0
    have hia := ha.nw Q4
    have hib := hb.nw Q4
    have cS := lSame_any w4 F F a b hia hib sza
    obtain ⟨is, his⟩ : ∃ is, is = decide (a.x = b.x) := ⟨_, rfl⟩
    rw [← his] at cS
    have HIS := Lib.hid his
    clear his hsm hgr
    go_upto_region 6 with (first | (refine wl_load_cells rfl 40 _ rfl G1 0 rfl [U8V a.kind, I64 a.group, I64 a.src, I64 a.dst, I64 a.term, I64 a.index, I64 a.logt, I64 a.commit, .bool a.ok, .slice a.ents.a a.ents.l.length a.ents.c, I64 a.base.index, I64 a.base.term, .slice a.base.cfg.v.a a.base.cfg.v.l.length a.base.cfg.v.c, .slice a.base.cfg.o.a a.base.cfg.o.l.length a.base.cfg.o.c, .slice a.base.cfg.l.a a.base.cfg.l.l.length a.base.cfg.l.c, .slice a.base.cfg.w.a a.base.cfg.w.l.length a.base.cfg.w.c, I64 a.size, I64 a.at_, I64 a.tag, .slice a.bytes.a a.bytes.l.length a.bytes.c] _ lx4 Try.underlying40 rfl (by kernel_rfl) ?_) | (refine wl_load_cells rfl 40 _ rfl G2 0 rfl [U8V b.kind, I64 b.group, I64 b.src, I64 b.dst, I64 b.term, I64 b.index, I64 b.logt, I64 b.commit, .bool b.ok, .slice b.ents.a b.ents.l.length b.ents.c, I64 b.base.index, I64 b.base.term, .slice b.base.cfg.v.a b.base.cfg.v.l.length b.base.cfg.v.c, .slice b.base.cfg.o.a b.base.cfg.o.l.length b.base.cfg.o.c, .slice b.base.cfg.l.a b.base.cfg.l.l.length b.base.cfg.l.c, .slice b.base.cfg.w.a b.base.cfg.w.l.length b.base.cfg.w.c, I64 b.size, I64 b.at_, I64 b.tag, .slice b.bytes.a b.bytes.l.length b.bytes.c] _ ly4 Try.underlying40 rfl (by kernel_rfl) ?_) | (go_at_call 23; refine cS.mono ?_; rintro e w5 ⟨rfl, q5⟩))
    have x5 := x4.fr q5 (fun h => h)
    have y5 := y4.fr q5 (fun h => h)
    have Q5 := Q4.tr q5
    clear lx4 ly4 cS x4 y4
    have lx5 := Blk.cells_at (l := [U8V a.kind, I64 a.group, I64 a.src, I64 a.dst, I64 a.term, I64 a.index, I64 a.logt, I64 a.commit, .bool a.ok, .slice a.ents.a a.ents.l.length a.ents.c, I64 a.base.index, I64 a.base.term, .slice a.base.cfg.v.a a.base.cfg.v.l.length a.base.cfg.v.c, .slice a.base.cfg.o.a a.base.cfg.o.l.length a.base.cfg.o.c, .slice a.base.cfg.l.a a.base.cfg.l.l.length a.base.cfg.l.c, .slice a.base.cfg.w.a a.base.cfg.w.l.length a.base.cfg.w.c, I64 a.size, I64 a.at_, I64 a.tag, .slice a.bytes.a a.bytes.l.length a.bytes.c]) x5 0
    have ly5 := Blk.cells_at (l := [U8V b.kind, I64 b.group, I64 b.src, I64 b.dst, I64 b.term, I64 b.index, I64 b.logt, I64 b.commit, .bool b.ok, .slice b.ents.a b.ents.l.length b.ents.c, I64 b.base.index, I64 b.base.term, .slice b.base.cfg.v.a b.base.cfg.v.l.length b.base.cfg.v.c, .slice b.base.cfg.o.a b.base.cfg.o.l.length b.base.cfg.o.c, .slice b.base.cfg.l.a b.base.cfg.l.l.length b.base.cfg.l.c, .slice b.base.cfg.w.a b.base.cfg.w.l.length b.base.cfg.w.c, I64 b.size, I64 b.at_, I64 b.tag, .slice b.bytes.a b.bytes.l.length b.bytes.c]) y5 0
    have hia5 := hia.nw q5
    have hib5 := hib.nw q5
    have cR : ∀ w6 g6, Nw w5 w6 → Sl w6 (· = g6) (some ⟨g6, 0, none⟩) (letsC [a, b]) → Calls Try.prog 24 #[.slice (some ⟨g6, 0, none⟩) 2 2] w6 fun e w' => e = .returned (.bool (letsOk [a.x, b.x])) ∧ Nw w6 w' := fun w6 g6 q s => lRight_any w6 (fun j => F j ∨ j = g6) (some ⟨g6, 0, none⟩) 2 [a, b] (s.mono fun j h _ => .inr h) (fun x hx => by
      simp only [List.mem_cons, List.not_mem_nil, or_false] at hx
      rcases hx with rfl | rfl
      · exact (hia5.nw q).mono fun j h _ => .inl h
      · exact (hib5.nw q).mono fun j h _ => .inl h) (fun x hx => by
      simp only [List.mem_cons, List.not_mem_nil, or_false] at hx
      rcases hx with rfl | rfl
      · exact sza
      · exact szb) (by simp)
    obtain ⟨rt, hrt⟩ : ∃ rt, rt = letsOk [a.x, b.x] := ⟨_, rfl⟩
    rw [← hrt] at cR
    have HRT := Lib.hid hrt
    have CR := Lib.hid cR
    clear hrt cR hia hib
    go_upto_if 28 with (first | (refine wl_load_cells rfl 40 _ rfl G1 0 rfl [U8V a.kind, I64 a.group, I64 a.src, I64 a.dst, I64 a.term, I64 a.index, I64 a.logt, I64 a.commit, .bool a.ok, .slice a.ents.a a.ents.l.length a.ents.c, I64 a.base.index, I64 a.base.term, .slice a.base.cfg.v.a a.base.cfg.v.l.length a.base.cfg.v.c, .slice a.base.cfg.o.a a.base.cfg.o.l.length a.base.cfg.o.c, .slice a.base.cfg.l.a a.base.cfg.l.l.length a.base.cfg.l.c, .slice a.base.cfg.w.a a.base.cfg.w.l.length a.base.cfg.w.c, I64 a.size, I64 a.at_, I64 a.tag, .slice a.bytes.a a.bytes.l.length a.bytes.c] _ lx5 Try.underlying40 rfl (by kernel_rfl) ?_) | (refine wl_load_cells rfl 40 _ rfl G2 0 rfl [U8V b.kind, I64 b.group, I64 b.src, I64 b.dst, I64 b.term, I64 b.index, I64 b.logt, I64 b.commit, .bool b.ok, .slice b.ents.a b.ents.l.length b.ents.c, I64 b.base.index, I64 b.base.term, .slice b.base.cfg.v.a b.base.cfg.v.l.length b.base.cfg.v.c, .slice b.base.cfg.o.a b.base.cfg.o.l.length b.base.cfg.o.c, .slice b.base.cfg.l.a b.base.cfg.l.l.length b.base.cfg.l.c, .slice b.base.cfg.w.a b.base.cfg.w.l.length b.base.cfg.w.c, I64 b.size, I64 b.at_, I64 b.tag, .slice b.bytes.a b.bytes.l.length b.bytes.c] _ ly5 Try.underlying40 rfl (by kernel_rfl) ?_) | (refine wl_build rfl 27 2 _ 20 [letL a, letL b] (.agg #[U8V 0, I64 0, I64 0, I64 0, I64 0, I64 0, I64 0, I64 0, .bool false, .slice none 0 0, I64 0, I64 0, .slice none 0 0, .slice none 0 0, .slice none 0 0, .slice none 0 0, I64 0, I64 0, I64 0, .slice none 0 0]) rfl Try.underlying27 (by kernel_rfl) rfl (by decide) (by decide) (by simp) (by decide) rfl ?_; intro g6 w6 hg6 hw6; obtain ⟨q6, s6⟩ := lets_sl [a, b] hg6 hw6; clear hg6 hw6) | (go_at_call 24; refine (CR.out w6 g6 q6 s6).mono ?_; rintro e w7 ⟨rfl, q7⟩))
    have Q7 := q6.tr q7
    go_cut [] (fun wx => Nw w5 wx)
    case first =>
      cases rt with
      | false =>
        go_wp2_with fail
        go_meet
        exact Q7
      | true =>
        have hok := (letsOk_iff _).1 HRT.out.symm
        have hoka : letOk a.x = true := hok _ (by simp)
        have hokb : letOk b.x = true := hok _ (by simp)
        have x7 := x5.fr Q7 (fun h => h)
        have y7 := y5.fr Q7 (fun h => h)
        have lx7 := Blk.cells_at (l := [U8V a.kind, I64 a.group, I64 a.src, I64 a.dst, I64 a.term, I64 a.index, I64 a.logt, I64 a.commit, .bool a.ok, .slice a.ents.a a.ents.l.length a.ents.c, I64 a.base.index, I64 a.base.term, .slice a.base.cfg.v.a a.base.cfg.v.l.length a.base.cfg.v.c, .slice a.base.cfg.o.a a.base.cfg.o.l.length a.base.cfg.o.c, .slice a.base.cfg.l.a a.base.cfg.l.l.length a.base.cfg.l.c, .slice a.base.cfg.w.a a.base.cfg.w.l.length a.base.cfg.w.c, I64 a.size, I64 a.at_, I64 a.tag, .slice a.bytes.a a.bytes.l.length a.bytes.c]) x7 0
        have cP : ∀ (x : LetM), letOk x.x = true → LetSz x → ∀ w8 g8, LetIn w8 F x → Sl w8 (· = g8) (some ⟨g8, 0, none⟩) (letsC [x]) → Calls Try.prog 25 #[.slice (some ⟨g8, 0, none⟩) 1 1] w8 fun e w' => ∃ A c, e = .returned (.tuple #[.slice A (letsB [x.x]).length c, .int .i64 0]) ∧ Own w' 5 1 A (letsB [x.x]).length c ((letsB [x.x]).map B8) ∧ Nw w8 w' ∧ ∀ k, inA A k → w8.heap.size ≤ k := fun x hx hz w8 g8 hin s =>
          (lPut_any w8 (fun j => F j ∨ j = g8) (some ⟨g8, 0, none⟩) 1 [x] (s.mono fun j h _ => .inr h) (fun y hy => by rw [List.mem_singleton.1 hy]; exact hin.mono fun j h _ => .inl h) (fun y hy => by rw [List.mem_singleton.1 hy]; exact hz) (by simp)).mono fun e w' hp => by
            have e1 : letsPut ([x].map LetM.x) = some (letsB [x.x]) := by unfold letsPut; rw [if_pos ((letsOk_iff _).2 (fun y hy => by rw [List.mem_singleton.1 hy]; exact hx))]; rfl
            rw [e1] at hp
            exact hp
        have cPa := cP a hoka sza
        have cPb := cP b hokb szb
        have hla : (letsB [a.x]).length ≤ 10000000 := by have := letB_le hoka; have := enc_len 1; simp [letsB]; omega
        have hsb := letsB_one hoka hokb
        obtain ⟨sa, hsa⟩ : ∃ s, s = letsB [a.x] := ⟨_, rfl⟩
        obtain ⟨sb, hsb2⟩ : ∃ s, s = letsB [b.x] := ⟨_, rfl⟩
        rw [← hsa] at cPa hla hsb
        rw [← hsb2] at cPb hsb
        have hseq : decide (sa = sb) = is := by rw [HIS.out]; exact decide_eq_decide.2 hsb
        obtain ⟨na, hna⟩ : ∃ n, n = sa.length := ⟨_, rfl⟩
        obtain ⟨nb, hnb⟩ : ∃ n, n = sb.length := ⟨_, rfl⟩
        rw [← hna] at cPa
        rw [← hnb] at cPb
        have cSB : ∀ w9 A1 c1 A2 c2, Own w9 5 1 A1 na c1 (sa.map B8) → Own w9 5 1 A2 nb c2 (sb.map B8) → Calls Try.prog 26 #[.slice A1 na c1, .slice A2 nb c2] w9 fun e w' => e = .returned (.bool is) ∧ Nw w9 w' := fun w9 A1 c1 A2 c2 o1 o2 => by
          have := same_u8 w9 (inA A1) (inA A2) A1 A2 c1 c2 sa sb o1.sl o2.sl (by omega)
          rw [← hna, ← hnb, hseq] at this
          exact this.mono fun e w' h => ⟨h.1, h.2.fr _⟩
        have CPa := Lib.hid cPa
        have CPb := Lib.hid cPb
        have CSB := Lib.hid cSB
        have hia7 := hia5.nw Q7
        have hib7 := hib5.nw Q7
        clear cP cPa cPb cSB hsa hsb2 hna hnb hseq hsb hok hla HRT
        go_wp2_with (first | (refine wl_load_cells rfl 40 _ rfl G1 0 rfl [U8V a.kind, I64 a.group, I64 a.src, I64 a.dst, I64 a.term, I64 a.index, I64 a.logt, I64 a.commit, .bool a.ok, .slice a.ents.a a.ents.l.length a.ents.c, I64 a.base.index, I64 a.base.term, .slice a.base.cfg.v.a a.base.cfg.v.l.length a.base.cfg.v.c, .slice a.base.cfg.o.a a.base.cfg.o.l.length a.base.cfg.o.c, .slice a.base.cfg.l.a a.base.cfg.l.l.length a.base.cfg.l.c, .slice a.base.cfg.w.a a.base.cfg.w.l.length a.base.cfg.w.c, I64 a.size, I64 a.at_, I64 a.tag, .slice a.bytes.a a.bytes.l.length a.bytes.c] _ lx7 Try.underlying40 rfl (by kernel_rfl) ?_) | (refine wl_build rfl 27 1 _ 20 [letL a] (.agg #[U8V 0, I64 0, I64 0, I64 0, I64 0, I64 0, I64 0, I64 0, .bool false, .slice none 0 0, I64 0, I64 0, .slice none 0 0, .slice none 0 0, .slice none 0 0, .slice none 0 0, I64 0, I64 0, I64 0, .slice none 0 0]) rfl Try.underlying27 (by kernel_rfl) rfl (by decide) (by decide) (by simp) (by decide) rfl ?_; intro g8 w8 hg8 hw8; obtain ⟨q8, s8⟩ := lets_sl [a] hg8 hw8; clear hg8 hw8))
        refine (CPa.out w8 g8 (hia7.nw q8) s8).mono ?_
        rintro e w9 ⟨A1, c1, rfl, o9, q9, n9⟩
        have Q9 := q8.tr q9
        have y9 := y7.fr Q9 (fun h => h)
        have ly9 := Blk.cells_at (l := [U8V b.kind, I64 b.group, I64 b.src, I64 b.dst, I64 b.term, I64 b.index, I64 b.logt, I64 b.commit, .bool b.ok, .slice b.ents.a b.ents.l.length b.ents.c, I64 b.base.index, I64 b.base.term, .slice b.base.cfg.v.a b.base.cfg.v.l.length b.base.cfg.v.c, .slice b.base.cfg.o.a b.base.cfg.o.l.length b.base.cfg.o.c, .slice b.base.cfg.l.a b.base.cfg.l.l.length b.base.cfg.l.c, .slice b.base.cfg.w.a b.base.cfg.w.l.length b.base.cfg.w.c, I64 b.size, I64 b.at_, I64 b.tag, .slice b.bytes.a b.bytes.l.length b.bytes.c]) y9 0
        clear lx7 s8
        go_wp2_with (first | (refine wl_load_cells rfl 40 _ rfl G2 0 rfl [U8V b.kind, I64 b.group, I64 b.src, I64 b.dst, I64 b.term, I64 b.index, I64 b.logt, I64 b.commit, .bool b.ok, .slice b.ents.a b.ents.l.length b.ents.c, I64 b.base.index, I64 b.base.term, .slice b.base.cfg.v.a b.base.cfg.v.l.length b.base.cfg.v.c, .slice b.base.cfg.o.a b.base.cfg.o.l.length b.base.cfg.o.c, .slice b.base.cfg.l.a b.base.cfg.l.l.length b.base.cfg.l.c, .slice b.base.cfg.w.a b.base.cfg.w.l.length b.base.cfg.w.c, I64 b.size, I64 b.at_, I64 b.tag, .slice b.bytes.a b.bytes.l.length b.bytes.c] _ ly9 Try.underlying40 rfl (by kernel_rfl) ?_) | (refine wl_build rfl 27 1 _ 20 [letL b] (.agg #[U8V 0, I64 0, I64 0, I64 0, I64 0, I64 0, I64 0, I64 0, .bool false, .slice none 0 0, I64 0, I64 0, .slice none 0 0, .slice none 0 0, .slice none 0 0, .slice none 0 0, I64 0, I64 0, I64 0, .slice none 0 0]) rfl Try.underlying27 (by kernel_rfl) rfl (by decide) (by decide) (by simp) (by decide) rfl ?_; intro g10 w10 hg10 hw10; obtain ⟨q10, s10⟩ := lets_sl [b] hg10 hw10; clear hg10 hw10))
        refine (CPb.out w10 g10 (hib7.nw (Q9.tr q10)) s10).mono ?_
        rintro e w11 ⟨A2, c2, rfl, o11, q11, n11⟩
        have o9' := (o9.fr q10 (fun _ _ h => h)).fr q11 (fun _ _ h => h)
        clear ly9 s10
        go_wp2_with fail
        refine (CSB.out w11 A1 c1 A2 c2 o9' o11).mono ?_
        rintro e w12 ⟨rfl, q12⟩
        have hbn : (is != is) = false := by cases is <;> rfl
        go_wp2_with fail
        go_meet
        exact (((Q7.tr Q9).tr q10).tr q11).tr q12
    case rest =>
      obtain ⟨w13, hw13⟩ : ∃ w13, w13 = wc := ⟨_, rfl⟩
      rw [← hw13] at hcut ⊢
      clear hw13
      have x13 := x5.fr hcut (fun h => h)
      have y13 := y5.fr hcut (fun h => h)
      have hia13 := hia5.nw hcut
      have hib13 := hib5.nw hcut
      have Q13 := Q5.tr hcut
      have lx13 := Blk.cells_at (l := [U8V a.kind, I64 a.group, I64 a.src, I64 a.dst, I64 a.term, I64 a.index, I64 a.logt, I64 a.commit, .bool a.ok, .slice a.ents.a a.ents.l.length a.ents.c, I64 a.base.index, I64 a.base.term, .slice a.base.cfg.v.a a.base.cfg.v.l.length a.base.cfg.v.c, .slice a.base.cfg.o.a a.base.cfg.o.l.length a.base.cfg.o.c, .slice a.base.cfg.l.a a.base.cfg.l.l.length a.base.cfg.l.c, .slice a.base.cfg.w.a a.base.cfg.w.l.length a.base.cfg.w.c, I64 a.size, I64 a.at_, I64 a.tag, .slice a.bytes.a a.bytes.l.length a.bytes.c]) x13 0
      have cc := copy_let w13 F a hia13 sza
      clear CR lx5 ly5 hia5 hib5 x5 y5
      go_wp2_with (refine wl_load_cells rfl 40 _ rfl G1 0 rfl [U8V a.kind, I64 a.group, I64 a.src, I64 a.dst, I64 a.term, I64 a.index, I64 a.logt, I64 a.commit, .bool a.ok, .slice a.ents.a a.ents.l.length a.ents.c, I64 a.base.index, I64 a.base.term, .slice a.base.cfg.v.a a.base.cfg.v.l.length a.base.cfg.v.c, .slice a.base.cfg.o.a a.base.cfg.o.l.length a.base.cfg.o.c, .slice a.base.cfg.l.a a.base.cfg.l.l.length a.base.cfg.l.c, .slice a.base.cfg.w.a a.base.cfg.w.l.length a.base.cfg.w.c, I64 a.size, I64 a.at_, I64 a.tag, .slice a.bytes.a a.bytes.l.length a.bytes.c] _ lx13 Try.underlying40 rfl (by kernel_rfl) ?_)
      refine cc.mono ?_
      rintro e w14 ⟨y, rfl, ey, iy, q14⟩
      have HEY := Lib.hid ey
      obtain ⟨G10, hG10⟩ : ∃ G, G = w14.heap.size := ⟨_, rfl⟩
      obtain ⟨V14, hV14⟩ : ∃ V, V = w14.alloc (.cells #[U8V 0, I64 0, I64 0, I64 0, I64 0, I64 0, I64 0, I64 0, .bool false, .slice none 0 0, I64 0, I64 0, .slice none 0 0, .slice none 0 0, .slice none 0 0, .slice none 0 0, I64 0, I64 0, I64 0, .slice none 0 0] 40) := ⟨_, rfl⟩
      have p14 : Nw w14 V14 := by rw [hV14]; exact (Fr.refl (fun _ => False) _).alloc _
      have g14 : Blk V14 G10 40 #[U8V 0, I64 0, I64 0, I64 0, I64 0, I64 0, I64 0, I64 0, .bool false, .slice none 0 0, I64 0, I64 0, .slice none 0 0, .slice none 0 0, .slice none 0 0, .slice none 0 0, I64 0, I64 0, I64 0, .slice none 0 0] := by rw [hV14, hG10]; exact Blk.new _ _ _
      have th14 := Blk.there (l := [U8V 0, I64 0, I64 0, I64 0, I64 0, I64 0, I64 0, I64 0, .bool false, .slice none 0 0, I64 0, I64 0, .slice none 0 0, .slice none 0 0, .slice none 0 0, .slice none 0 0, I64 0, I64 0, I64 0, .slice none 0 0]) g14 0 20 (by show 0 + 20 ≤ 20; omega)
      have one14 := letA_one y
      obtain ⟨V15, hV15⟩ : ∃ V, V = V14.setCells G10 0 [U8V y.kind, I64 y.group, I64 y.src, I64 y.dst, I64 y.term, I64 y.index, I64 y.logt, I64 y.commit, .bool y.ok, .slice y.ents.a y.ents.l.length y.ents.c, I64 y.base.index, I64 y.base.term, .slice y.base.cfg.v.a y.base.cfg.v.l.length y.base.cfg.v.c, .slice y.base.cfg.o.a y.base.cfg.o.l.length y.base.cfg.o.c, .slice y.base.cfg.l.a y.base.cfg.l.l.length y.base.cfg.l.c, .slice y.base.cfg.w.a y.base.cfg.w.l.length y.base.cfg.w.c, I64 y.size, I64 y.at_, I64 y.tag, .slice y.bytes.a y.bytes.l.length y.bytes.c] := ⟨_, rfl⟩
      have g15 : Blk V15 G10 40 #[U8V y.kind, I64 y.group, I64 y.src, I64 y.dst, I64 y.term, I64 y.index, I64 y.logt, I64 y.commit, .bool y.ok, .slice y.ents.a y.ents.l.length y.ents.c, I64 y.base.index, I64 y.base.term, .slice y.base.cfg.v.a y.base.cfg.v.l.length y.base.cfg.v.c, .slice y.base.cfg.o.a y.base.cfg.o.l.length y.base.cfg.o.c, .slice y.base.cfg.l.a y.base.cfg.l.l.length y.base.cfg.l.c, .slice y.base.cfg.w.a y.base.cfg.w.l.length y.base.cfg.w.c, I64 y.size, I64 y.at_, I64 y.tag, .slice y.bytes.a y.bytes.l.length y.bytes.c] := by rw [hV15]; exact Blk.setCells (l := [U8V 0, I64 0, I64 0, I64 0, I64 0, I64 0, I64 0, I64 0, .bool false, .slice none 0 0, I64 0, I64 0, .slice none 0 0, .slice none 0 0, .slice none 0 0, .slice none 0 0, I64 0, I64 0, I64 0, .slice none 0 0]) g14 0 [U8V y.kind, I64 y.group, I64 y.src, I64 y.dst, I64 y.term, I64 y.index, I64 y.logt, I64 y.commit, .bool y.ok, .slice y.ents.a y.ents.l.length y.ents.c, I64 y.base.index, I64 y.base.term, .slice y.base.cfg.v.a y.base.cfg.v.l.length y.base.cfg.v.c, .slice y.base.cfg.o.a y.base.cfg.o.l.length y.base.cfg.o.c, .slice y.base.cfg.l.a y.base.cfg.l.l.length y.base.cfg.l.c, .slice y.base.cfg.w.a y.base.cfg.w.l.length y.base.cfg.w.c, I64 y.size, I64 y.at_, I64 y.tag, .slice y.bytes.a y.bytes.l.length y.bytes.c]
      have m15 : Fr (· = G10) V14 V15 := by rw [hV15]; exact (Fr.refl (· = G10) _).setCells _ _
      have p15 : Nw w14 V15 := p14.new m15 (fun b hb => by omega)
      have x15 := (x13.fr q14 (fun h => h)).fr p15 (fun h => h)
      have y15 := (y13.fr q14 (fun h => h)).fr p15 (fun h => h)
      have lx15 := Blk.cells_at (l := [U8V a.kind, I64 a.group, I64 a.src, I64 a.dst, I64 a.term, I64 a.index, I64 a.logt, I64 a.commit, .bool a.ok, .slice a.ents.a a.ents.l.length a.ents.c, I64 a.base.index, I64 a.base.term, .slice a.base.cfg.v.a a.base.cfg.v.l.length a.base.cfg.v.c, .slice a.base.cfg.o.a a.base.cfg.o.l.length a.base.cfg.o.c, .slice a.base.cfg.l.a a.base.cfg.l.l.length a.base.cfg.l.c, .slice a.base.cfg.w.a a.base.cfg.w.l.length a.base.cfg.w.c, I64 a.size, I64 a.at_, I64 a.tag, .slice a.bytes.a a.bytes.l.length a.bytes.c]) x15 0
      have HG10 := Lib.hid hG10
      have HV14 := Lib.hid hV14
      have HV15 := Lib.hid hV15
      clear hG10 hV14 hV15 ey cc g14 m15 p14
      go_upto_region 12 with (rw [← HG10.out, ← HV14.out]; refine wpList_store_mid rfl 40 _ _ rfl G10 0 #[U8V y.kind, I64 y.group, I64 y.src, I64 y.dst, I64 y.term, I64 y.index, I64 y.logt, I64 y.commit, .bool y.ok, .slice y.ents.a y.ents.l.length y.ents.c, I64 y.base.index, I64 y.base.term, .slice y.base.cfg.v.a y.base.cfg.v.l.length y.base.cfg.v.c, .slice y.base.cfg.o.a y.base.cfg.o.l.length y.base.cfg.o.c, .slice y.base.cfg.l.a y.base.cfg.l.l.length y.base.cfg.l.c, .slice y.base.cfg.w.a y.base.cfg.w.l.length y.base.cfg.w.c, I64 y.size, I64 y.at_, I64 y.tag, .slice y.bytes.a y.bytes.l.length y.bytes.c] rfl rfl th14 (by kernel_rfl) one14 ?_; rw [← HV15.out])
      have cl := lCopy_any V15 F a ((hia13.nw q14).nw p15) sza
      clear lx13 th14 one14
      go_wp2_with (refine wl_load_cells rfl 40 _ rfl G1 0 rfl [U8V a.kind, I64 a.group, I64 a.src, I64 a.dst, I64 a.term, I64 a.index, I64 a.logt, I64 a.commit, .bool a.ok, .slice a.ents.a a.ents.l.length a.ents.c, I64 a.base.index, I64 a.base.term, .slice a.base.cfg.v.a a.base.cfg.v.l.length a.base.cfg.v.c, .slice a.base.cfg.o.a a.base.cfg.o.l.length a.base.cfg.o.c, .slice a.base.cfg.l.a a.base.cfg.l.l.length a.base.cfg.l.c, .slice a.base.cfg.w.a a.base.cfg.w.l.length a.base.cfg.w.c, I64 a.size, I64 a.at_, I64 a.tag, .slice a.bytes.a a.bytes.l.length a.bytes.c] _ lx15 Try.underlying40 rfl (by kernel_rfl) ?_)
      refine cl.mono ?_
      rintro e w16 ⟨c, rfl, ec, oc, q16⟩
      have szc := LetSz.of_eq ec sza
      obtain ⟨G11, hG11⟩ : ∃ G, G = w16.heap.size := ⟨_, rfl⟩
      obtain ⟨V16, hV16⟩ : ∃ V, V = w16.alloc (.cells #[U8V 0, I64 0, I64 0, I64 0, I64 0, I64 0, I64 0, I64 0, .bool false, .slice none 0 0, I64 0, I64 0, .slice none 0 0, .slice none 0 0, .slice none 0 0, .slice none 0 0, I64 0, I64 0, I64 0, .slice none 0 0] 40) := ⟨_, rfl⟩
      have p16 : Nw w16 V16 := by rw [hV16]; exact (Fr.refl (fun _ => False) _).alloc _
      have g16 : Blk V16 G11 40 #[U8V 0, I64 0, I64 0, I64 0, I64 0, I64 0, I64 0, I64 0, .bool false, .slice none 0 0, I64 0, I64 0, .slice none 0 0, .slice none 0 0, .slice none 0 0, .slice none 0 0, I64 0, I64 0, I64 0, .slice none 0 0] := by rw [hV16, hG11]; exact Blk.new _ _ _
      have th16 := Blk.there (l := [U8V 0, I64 0, I64 0, I64 0, I64 0, I64 0, I64 0, I64 0, .bool false, .slice none 0 0, I64 0, I64 0, .slice none 0 0, .slice none 0 0, .slice none 0 0, .slice none 0 0, I64 0, I64 0, I64 0, .slice none 0 0]) g16 0 20 (by show 0 + 20 ≤ 20; omega)
      have one16 := letA_one c
      obtain ⟨V17, hV17⟩ : ∃ V, V = V16.setCells G11 0 [U8V c.kind, I64 c.group, I64 c.src, I64 c.dst, I64 c.term, I64 c.index, I64 c.logt, I64 c.commit, .bool c.ok, .slice c.ents.a c.ents.l.length c.ents.c, I64 c.base.index, I64 c.base.term, .slice c.base.cfg.v.a c.base.cfg.v.l.length c.base.cfg.v.c, .slice c.base.cfg.o.a c.base.cfg.o.l.length c.base.cfg.o.c, .slice c.base.cfg.l.a c.base.cfg.l.l.length c.base.cfg.l.c, .slice c.base.cfg.w.a c.base.cfg.w.l.length c.base.cfg.w.c, I64 c.size, I64 c.at_, I64 c.tag, .slice c.bytes.a c.bytes.l.length c.bytes.c] := ⟨_, rfl⟩
      have g17 : Blk V17 G11 40 #[U8V c.kind, I64 c.group, I64 c.src, I64 c.dst, I64 c.term, I64 c.index, I64 c.logt, I64 c.commit, .bool c.ok, .slice c.ents.a c.ents.l.length c.ents.c, I64 c.base.index, I64 c.base.term, .slice c.base.cfg.v.a c.base.cfg.v.l.length c.base.cfg.v.c, .slice c.base.cfg.o.a c.base.cfg.o.l.length c.base.cfg.o.c, .slice c.base.cfg.l.a c.base.cfg.l.l.length c.base.cfg.l.c, .slice c.base.cfg.w.a c.base.cfg.w.l.length c.base.cfg.w.c, I64 c.size, I64 c.at_, I64 c.tag, .slice c.bytes.a c.bytes.l.length c.bytes.c] := by rw [hV17]; exact Blk.setCells (l := [U8V 0, I64 0, I64 0, I64 0, I64 0, I64 0, I64 0, I64 0, .bool false, .slice none 0 0, I64 0, I64 0, .slice none 0 0, .slice none 0 0, .slice none 0 0, .slice none 0 0, I64 0, I64 0, I64 0, .slice none 0 0]) g16 0 [U8V c.kind, I64 c.group, I64 c.src, I64 c.dst, I64 c.term, I64 c.index, I64 c.logt, I64 c.commit, .bool c.ok, .slice c.ents.a c.ents.l.length c.ents.c, I64 c.base.index, I64 c.base.term, .slice c.base.cfg.v.a c.base.cfg.v.l.length c.base.cfg.v.c, .slice c.base.cfg.o.a c.base.cfg.o.l.length c.base.cfg.o.c, .slice c.base.cfg.l.a c.base.cfg.l.l.length c.base.cfg.l.c, .slice c.base.cfg.w.a c.base.cfg.w.l.length c.base.cfg.w.c, I64 c.size, I64 c.at_, I64 c.tag, .slice c.bytes.a c.bytes.l.length c.bytes.c]
      have m17 : Fr (· = G11) V16 V17 := by rw [hV17]; exact (Fr.refl (· = G11) _).setCells _ _
      have p17 : Nw w16 V17 := p16.new m17 (fun b hb => by omega)
      have hG11w : w16.heap.size ≤ G11 := by omega
      have HG11 := Lib.hid hG11
      have HV16 := Lib.hid hV16
      have HV17 := Lib.hid hV17
      clear hG11 hV16 hV17 cl g16 m17 p16 ec
      go_upto_region 13 with (rw [← HG11.out, ← HV16.out]; refine wpList_store_mid rfl 40 _ _ rfl G11 0 #[U8V c.kind, I64 c.group, I64 c.src, I64 c.dst, I64 c.term, I64 c.index, I64 c.logt, I64 c.commit, .bool c.ok, .slice c.ents.a c.ents.l.length c.ents.c, I64 c.base.index, I64 c.base.term, .slice c.base.cfg.v.a c.base.cfg.v.l.length c.base.cfg.v.c, .slice c.base.cfg.o.a c.base.cfg.o.l.length c.base.cfg.o.c, .slice c.base.cfg.l.a c.base.cfg.l.l.length c.base.cfg.l.c, .slice c.base.cfg.w.a c.base.cfg.w.l.length c.base.cfg.w.c, I64 c.size, I64 c.at_, I64 c.tag, .slice c.bytes.a c.bytes.l.length c.bytes.c] rfl rfl th16 (by kernel_rfl) one16 ?_; rw [← HV17.out])
      have oc17 := oc.nw p17
      have x17 := (x15.fr q16 (fun h => h)).fr p17 (fun h => h)
      have y17 := (y15.fr q16 (fun h => h)).fr p17 (fun h => h)
      have e17 := (g15.fr q16 (fun h => h)).fr p17 (fun h => h)
      have hs13 := q14.size
      have hs15 := p15.size
      have hs16 := q16.size
      have hs17 := p17.size
      obtain ⟨S, hS⟩ : ∃ S : Nat → Prop, S = fun j => V15.heap.size ≤ j ∧ j < w16.heap.size := ⟨_, rfl⟩
      have hSi : ∀ j, V15.heap.size ≤ j → j < w16.heap.size → S j := fun j h1 h2 => by rw [hS]; exact ⟨h1, h2⟩
      have hSo : ∀ j, S j → V15.heap.size ≤ j ∧ j < w16.heap.size := fun j h => by rw [hS] at h; exact h
      clear hS
      have n1 : ¬ S G1 := fun h => by have := hSo _ h; have := x15.lt; omega
      have n2 : ¬ S G2 := fun h => by have := hSo _ h; have := y15.lt; omega
      have n10 : ¬ S G10 := fun h => by have := hSo _ h; have := g15.lt; omega
      have n11 : ¬ S G11 := fun h => by have := hSo _ h; omega
      have a17 := (hia13.mono (F' := fun j => j < w13.heap.size ∧ F j) fun j h1 h2 => ⟨h2, h1⟩).nw (((q14.tr p15).tr q16).tr p17)
      have b17 := (hib13.mono (F' := fun j => j < w13.heap.size ∧ F j) fun j h1 h2 => ⟨h2, h1⟩).nw (((q14.tr p15).tr q16).tr p17)
      have i17 := (iy.mono (F' := fun j => j < w14.heap.size) fun j h1 h2 => h2).nw ((p15.tr q16).tr p17)
      have Q17 := Q13.tr (((q14.tr p15).tr q16).tr p17)
      have ov0 : OvInv V17 V17 S c := ⟨Fr.refl _ _, ⟨_, ⟨rfl, fun k h1 h2 => rfl⟩, oc17.ents.own⟩, fun e he => (oc17.each e he).cmd.u8, oc17.bytes.u8, oc17.cfg.v.int⟩
      have seg : ∀ g, c.ents.a = some ⟨g, 0, none⟩ → S g := fun g hg => hSi g (oc.ents.base g (by show inA c.ents.a g; rw [hg]; exact (inA_some _ _).2 rfl)) (oc.ents.own.lt g (by show inA c.ents.a g; rw [hg]; exact (inA_some _ _).2 rfl))
      have scm : ∀ e ∈ c.ents.l, ∀ g, e.cmd.a = some ⟨g, 0, none⟩ → S g := fun e he g hg => hSi g ((oc.each e he).cmd.base g (by rw [hg]; exact (inA_some _ _).2 rfl)) ((oc.each e he).cmd.own.lt g (by rw [hg]; exact (inA_some _ _).2 rfl))
      have sby : ∀ g, c.bytes.a = some ⟨g, 0, none⟩ → S g := fun g hg => hSi g (oc.bytes.base g (by rw [hg]; exact (inA_some _ _).2 rfl)) (oc.bytes.own.lt g (by rw [hg]; exact (inA_some _ _).2 rfl))
      have svo : ∀ g, c.base.cfg.v.a = some ⟨g, 0, none⟩ → S g := fun g hg => hSi g (oc.cfg.v.base g (by rw [hg]; exact (inA_some _ _).2 rfl)) (oc.cfg.v.own.lt g (by rw [hg]; exact (inA_some _ _).2 rfl))
      have hGc : ∀ wr, OvInv V17 wr S c → Blk wr G11 40 #[U8V c.kind, I64 c.group, I64 c.src, I64 c.dst, I64 c.term, I64 c.index, I64 c.logt, I64 c.commit, .bool c.ok, .slice c.ents.a c.ents.l.length c.ents.c, I64 c.base.index, I64 c.base.term, .slice c.base.cfg.v.a c.base.cfg.v.l.length c.base.cfg.v.c, .slice c.base.cfg.o.a c.base.cfg.o.l.length c.base.cfg.o.c, .slice c.base.cfg.l.a c.base.cfg.l.l.length c.base.cfg.l.c, .slice c.base.cfg.w.a c.base.cfg.w.l.length c.base.cfg.w.c, I64 c.size, I64 c.at_, I64 c.tag, .slice c.bytes.a c.bytes.l.length c.bytes.c] := fun wr h => g17.fr h.fr n11
      have zen := szc.ents
      have zby := szc.bytes
      have zvo := szc.cfg.v
      have zcm : ∀ e ∈ c.ents.l, e.cmd.l.length ≤ 1000000 := fun e he => (szc.each e he).cmd
      have HGC := Lib.hid hGc
      have HSEG := Lib.hid seg
      have HSCM := Lib.hid scm
      have HZCM := Lib.hid zcm
      clear hGc seg scm zcm lx15 th16 one16 q14 p15 q16 p17 hia13 hib13 iy x13 y13 x15 y15 g15 oc oc17
      go_wp2_with fail
      go_loopw [12] (fun i wr => LoA V17 S c i wr) (fun i _ => c.ents.l.length - (intOf i).toNat)
      case atStart => exact ⟨0, Nat.zero_le _, rfl, ov0⟩
      case round =>
        obtain ⟨k, hk, rfl, ov⟩ := hrel
        have l9 : wr.cell? ⟨G11, 9, none⟩ = some (.slice c.ents.a c.ents.l.length c.ents.c) := by simpa using (HGC.out wr ov).cell 9
        by_cases hlt : k < c.ents.l.length
        · obtain ⟨g, t, hg, hc0, hc2, hf0⟩ := ov.entry hlt
          obtain ⟨t2, ht2⟩ : ∃ t2, IntKind.i64.wrap (t + 1) = t2 := ⟨_, rfl⟩
          have hi0 : (k : Int) < (c.ents.l.length : Int) := by omega
          have hSg := HSEG.out g hg
          have ov2 := ov.term hg hSg hlt t2
          have HG := Lib.hid hg
          rw [hg] at l9
          obtain ⟨e, hee⟩ : ∃ e, c.ents.l[k] = e := ⟨_, rfl⟩
          have hem : e ∈ c.ents.l := by rw [← hee]; exact List.getElem_mem hlt
          have HEE := Lib.hid hee
          clear hc2 hg hee ov
          go_wp2_with fail
          go_loopw [13] (fun j wx => LoN V17 S c e.cmd.l.length j wx) (fun j _ => e.cmd.l.length - (intOf j).toNat)
          case atStart => exact ⟨0, Nat.zero_le _, rfl, ov2⟩
          case round =>
            clear ov2 l9 hc0 hf0
            obtain ⟨j, hjl, rfl, ov3⟩ := hrel
            have l9 : wr.cell? ⟨G11, 9, none⟩ = some (.slice (some ⟨g, 0, none⟩) c.ents.l.length c.ents.c) := by rw [← HG.out]; simpa using (HGC.out wr ov3).cell 9
            obtain ⟨g3, t3, hg3, _, hc3, _⟩ := ov3.entry hlt
            have hgg : g = g3 := by
              have h := HG.out
              rw [hg3] at h
              injection h with h
              injection h with h
              exact h.symm
            subst hgg
            rw [HEE.out] at hc3
            clear hg3
            have zce := HZCM.out e hem
            by_cases hj : j < e.cmd.l.length
            · have hj0 : (j : Int) < (e.cmd.l.length : Int) := by omega
              obtain ⟨gc, cur, v, hca, hbk, hcj, b0, rfl⟩ := (ov3.cmd e hem).at_ hj
              obtain ⟨b2, hb2⟩ := wrap_b8 b0
              have hSc := HSCM.out e hem gc hca
              have ov4 := ov3.u8 hbk hSc j b2
              have cj : wr.cell? ⟨gc, j, none⟩ = some (B8 b0) := (hbk.cell j).trans hcj
              have cf := hbk.frozen j
              rw [hca] at hc3
              clear hca hbk hcj ov3
              go_wp2_with fail
              go_roundw
              case rel => exact ⟨j + 1, hj, by go_num, ov4⟩
              case measure => simp [intOf]; omega
            · have hj0 : ¬ (j : Int) < (e.cmd.l.length : Int) := by omega
              go_wp2_with fail
              go_roundw
              case rel => exact ⟨k + 1, hlt, by go_num, ov3⟩
              case measure => simp [intOf]; omega
        · have hi0 : ¬ (k : Int) < (c.ents.l.length : Int) := by omega
          go_wp2_with fail
          go_loopw [14] (fun j wx => LoN V17 S c c.bytes.l.length j wx) (fun j _ => c.bytes.l.length - (intOf j).toNat)
          case atStart => exact ⟨0, Nat.zero_le _, rfl, ov⟩
          case round =>
            clear ov l9
            obtain ⟨j, hjl, rfl, ov3⟩ := hrel
            have l19 : wr.cell? ⟨G11, 19, none⟩ = some (.slice c.bytes.a c.bytes.l.length c.bytes.c) := by simpa using (HGC.out wr ov3).cell 19
            by_cases hj : j < c.bytes.l.length
            · have hj0 : (j : Int) < (c.bytes.l.length : Int) := by omega
              obtain ⟨gc, cur, v, hca, hbk, hcj, b0, rfl⟩ := ov3.bytes.at_ hj
              obtain ⟨b2, hb2⟩ := wrap_b8 b0
              have hSc := sby gc hca
              have ov4 := ov3.u8 hbk hSc j b2
              have cj : wr.cell? ⟨gc, j, none⟩ = some (B8 b0) := (hbk.cell j).trans hcj
              have cf := hbk.frozen j
              rw [hca] at l19
              clear hca hbk hcj ov3
              go_wp2_with fail
              go_roundw
              case rel => exact ⟨j + 1, hj, by go_num, ov4⟩
              case measure => simp [intOf]; omega
            · have hj0 : ¬ (j : Int) < (c.bytes.l.length : Int) := by omega
              go_wp2_with fail
              go_loopw [15] (fun j wx => LoN V17 S c c.base.cfg.v.l.length j wx) (fun j _ => c.base.cfg.v.l.length - (intOf j).toNat)
              case atStart => exact ⟨0, Nat.zero_le _, rfl, ov3⟩
              case round =>
                clear ov3 l19
                obtain ⟨i, hil, rfl, ov5⟩ := hrel
                have l12 : wr.cell? ⟨G11, 12, none⟩ = some (.slice c.base.cfg.v.a c.base.cfg.v.l.length c.base.cfg.v.c) := by simpa using (HGC.out wr ov5).cell 12
                by_cases hi : i < c.base.cfg.v.l.length
                · have hj1 : (i : Int) < (c.base.cfg.v.l.length : Int) := by omega
                  obtain ⟨gc, cur, v, hca, hbk, hcj, b0, rfl⟩ := ov5.v.at_ hi
                  obtain ⟨b2, hb2⟩ : ∃ b2, IntKind.i64.wrap (b0 + 1) = b2 := ⟨_, rfl⟩
                  have hSc := svo gc hca
                  have ov6 := ov5.int hbk hSc i b2
                  have cj : wr.cell? ⟨gc, i, none⟩ = some (I64 b0) := (hbk.cell i).trans hcj
                  have cf := hbk.frozen i
                  rw [hca] at l12
                  clear hca hbk hcj ov5
                  go_wp2_with fail
                  go_roundw
                  case rel => exact ⟨i + 1, hi, by go_num, ov6⟩
                  case measure => simp [intOf]; omega
                · have hj1 : ¬ (i : Int) < (c.base.cfg.v.l.length : Int) := by omega
                  have f := ov5.fr
                  have xz := x17.fr f n1
                  have yz := y17.fr f n2
                  have ez := e17.fr f n10
                  have az := a17.fr f (fun j h1 h2 => by have := hSo j h2; omega)
                  have bz := b17.fr f (fun j h1 h2 => by have := hSo j h2; omega)
                  have iz := i17.fr f (fun j h1 h2 => by have := hSo j h2; omega)
                  have lax := Blk.cells_at (l := [U8V a.kind, I64 a.group, I64 a.src, I64 a.dst, I64 a.term, I64 a.index, I64 a.logt, I64 a.commit, .bool a.ok, .slice a.ents.a a.ents.l.length a.ents.c, I64 a.base.index, I64 a.base.term, .slice a.base.cfg.v.a a.base.cfg.v.l.length a.base.cfg.v.c, .slice a.base.cfg.o.a a.base.cfg.o.l.length a.base.cfg.o.c, .slice a.base.cfg.l.a a.base.cfg.l.l.length a.base.cfg.l.c, .slice a.base.cfg.w.a a.base.cfg.w.l.length a.base.cfg.w.c, I64 a.size, I64 a.at_, I64 a.tag, .slice a.bytes.a a.bytes.l.length a.bytes.c]) xz 0
                  have lay := Blk.cells_at (l := [U8V y.kind, I64 y.group, I64 y.src, I64 y.dst, I64 y.term, I64 y.index, I64 y.logt, I64 y.commit, .bool y.ok, .slice y.ents.a y.ents.l.length y.ents.c, I64 y.base.index, I64 y.base.term, .slice y.base.cfg.v.a y.base.cfg.v.l.length y.base.cfg.v.c, .slice y.base.cfg.o.a y.base.cfg.o.l.length y.base.cfg.o.c, .slice y.base.cfg.l.a y.base.cfg.l.l.length y.base.cfg.l.c, .slice y.base.cfg.w.a y.base.cfg.w.l.length y.base.cfg.w.c, I64 y.size, I64 y.at_, I64 y.tag, .slice y.bytes.a y.bytes.l.length y.bytes.c]) ez 0
                  have Qz : Nw W wr := Q17.new f (fun j h => by have := hSo j h; have := Q13.size; omega)
                  have c1 := lSame_any wr _ _ a y az iz sza
                  rw [decide_eq_true HEY.out.symm] at c1
                  have c2 : ∀ w2, Nw wr w2 → Calls Try.prog 23 #[.agg (letA b), .agg (letA a)] w2 fun e w' => e = .returned (.bool is) ∧ Nw w2 w' := fun w2 q => by
                    have := lSame_any w2 _ _ b a (bz.nw q) (az.nw q) szb
                    rw [HIS.out]
                    exact this.mono fun e w' h => ⟨by rw [h.1]; congr 2; exact decide_eq_decide.2 ⟨Eq.symm, Eq.symm⟩, h.2⟩
                  have c3 : ∀ w2, Nw wr w2 → Calls Try.prog 23 #[.agg (letA a), .agg (letA a)] w2 fun e w' => e = .returned (.bool true) ∧ Nw w2 w' := fun w2 q => by
                    have := lSame_any w2 _ _ a a (az.nw q) (az.nw q) sza
                    exact this.mono fun e w' h => ⟨by rw [h.1]; simp, h.2⟩
                  have hbe : (is == is) = true := by cases is <;> rfl
                  clear ov5 az bz iz x17 y17 e17 g17 a17 b17 i17 f
                  go_wp2_with (first | (refine wl_load_cells rfl 40 _ rfl G1 0 rfl [U8V a.kind, I64 a.group, I64 a.src, I64 a.dst, I64 a.term, I64 a.index, I64 a.logt, I64 a.commit, .bool a.ok, .slice a.ents.a a.ents.l.length a.ents.c, I64 a.base.index, I64 a.base.term, .slice a.base.cfg.v.a a.base.cfg.v.l.length a.base.cfg.v.c, .slice a.base.cfg.o.a a.base.cfg.o.l.length a.base.cfg.o.c, .slice a.base.cfg.l.a a.base.cfg.l.l.length a.base.cfg.l.c, .slice a.base.cfg.w.a a.base.cfg.w.l.length a.base.cfg.w.c, I64 a.size, I64 a.at_, I64 a.tag, .slice a.bytes.a a.bytes.l.length a.bytes.c] _ lax Try.underlying40 rfl (by kernel_rfl) ?_) | (refine wl_load_cells rfl 40 _ rfl G10 0 rfl [U8V y.kind, I64 y.group, I64 y.src, I64 y.dst, I64 y.term, I64 y.index, I64 y.logt, I64 y.commit, .bool y.ok, .slice y.ents.a y.ents.l.length y.ents.c, I64 y.base.index, I64 y.base.term, .slice y.base.cfg.v.a y.base.cfg.v.l.length y.base.cfg.v.c, .slice y.base.cfg.o.a y.base.cfg.o.l.length y.base.cfg.o.c, .slice y.base.cfg.l.a y.base.cfg.l.l.length y.base.cfg.l.c, .slice y.base.cfg.w.a y.base.cfg.w.l.length y.base.cfg.w.c, I64 y.size, I64 y.at_, I64 y.tag, .slice y.bytes.a y.bytes.l.length y.bytes.c] _ lay Try.underlying40 rfl (by kernel_rfl) ?_))
                  refine c1.mono ?_
                  rintro e w20 ⟨rfl, q20⟩
                  have x20 := xz.fr q20 (fun h => h)
                  have y20 := yz.fr q20 (fun h => h)
                  have lx20 := Blk.cells_at (l := [U8V a.kind, I64 a.group, I64 a.src, I64 a.dst, I64 a.term, I64 a.index, I64 a.logt, I64 a.commit, .bool a.ok, .slice a.ents.a a.ents.l.length a.ents.c, I64 a.base.index, I64 a.base.term, .slice a.base.cfg.v.a a.base.cfg.v.l.length a.base.cfg.v.c, .slice a.base.cfg.o.a a.base.cfg.o.l.length a.base.cfg.o.c, .slice a.base.cfg.l.a a.base.cfg.l.l.length a.base.cfg.l.c, .slice a.base.cfg.w.a a.base.cfg.w.l.length a.base.cfg.w.c, I64 a.size, I64 a.at_, I64 a.tag, .slice a.bytes.a a.bytes.l.length a.bytes.c]) x20 0
                  have ly20 := Blk.cells_at (l := [U8V b.kind, I64 b.group, I64 b.src, I64 b.dst, I64 b.term, I64 b.index, I64 b.logt, I64 b.commit, .bool b.ok, .slice b.ents.a b.ents.l.length b.ents.c, I64 b.base.index, I64 b.base.term, .slice b.base.cfg.v.a b.base.cfg.v.l.length b.base.cfg.v.c, .slice b.base.cfg.o.a b.base.cfg.o.l.length b.base.cfg.o.c, .slice b.base.cfg.l.a b.base.cfg.l.l.length b.base.cfg.l.c, .slice b.base.cfg.w.a b.base.cfg.w.l.length b.base.cfg.w.c, I64 b.size, I64 b.at_, I64 b.tag, .slice b.bytes.a b.bytes.l.length b.bytes.c]) y20 0
                  clear lax lay
                  go_wp2_with (first | (refine wl_cells_want (by kernel_rfl) 40 _ rfl G1 0 rfl [U8V a.kind, I64 a.group, I64 a.src, I64 a.dst, I64 a.term, I64 a.index, I64 a.logt, I64 a.commit, .bool a.ok, .slice a.ents.a a.ents.l.length a.ents.c, I64 a.base.index, I64 a.base.term, .slice a.base.cfg.v.a a.base.cfg.v.l.length a.base.cfg.v.c, .slice a.base.cfg.o.a a.base.cfg.o.l.length a.base.cfg.o.c, .slice a.base.cfg.l.a a.base.cfg.l.l.length a.base.cfg.l.c, .slice a.base.cfg.w.a a.base.cfg.w.l.length a.base.cfg.w.c, I64 a.size, I64 a.at_, I64 a.tag, .slice a.bytes.a a.bytes.l.length a.bytes.c] _ lx20 Try.underlying40 rfl (by kernel_rfl) ?_) | (refine wl_cells_want (by kernel_rfl) 40 _ rfl G2 0 rfl [U8V b.kind, I64 b.group, I64 b.src, I64 b.dst, I64 b.term, I64 b.index, I64 b.logt, I64 b.commit, .bool b.ok, .slice b.ents.a b.ents.l.length b.ents.c, I64 b.base.index, I64 b.base.term, .slice b.base.cfg.v.a b.base.cfg.v.l.length b.base.cfg.v.c, .slice b.base.cfg.o.a b.base.cfg.o.l.length b.base.cfg.o.c, .slice b.base.cfg.l.a b.base.cfg.l.l.length b.base.cfg.l.c, .slice b.base.cfg.w.a b.base.cfg.w.l.length b.base.cfg.w.c, I64 b.size, I64 b.at_, I64 b.tag, .slice b.bytes.a b.bytes.l.length b.bytes.c] _ ly20 Try.underlying40 rfl (by kernel_rfl) ?_))
                  refine (c2 w20 q20).mono ?_
                  rintro e w21 ⟨rfl, q21⟩
                  have x21 := x20.fr q21 (fun h => h)
                  have lx21 := Blk.cells_at (l := [U8V a.kind, I64 a.group, I64 a.src, I64 a.dst, I64 a.term, I64 a.index, I64 a.logt, I64 a.commit, .bool a.ok, .slice a.ents.a a.ents.l.length a.ents.c, I64 a.base.index, I64 a.base.term, .slice a.base.cfg.v.a a.base.cfg.v.l.length a.base.cfg.v.c, .slice a.base.cfg.o.a a.base.cfg.o.l.length a.base.cfg.o.c, .slice a.base.cfg.l.a a.base.cfg.l.l.length a.base.cfg.l.c, .slice a.base.cfg.w.a a.base.cfg.w.l.length a.base.cfg.w.c, I64 a.size, I64 a.at_, I64 a.tag, .slice a.bytes.a a.bytes.l.length a.bytes.c]) x21 0
                  clear lx20 ly20
                  go_wp2_with (refine wl_cells_want (by kernel_rfl) 40 _ rfl G1 0 rfl [U8V a.kind, I64 a.group, I64 a.src, I64 a.dst, I64 a.term, I64 a.index, I64 a.logt, I64 a.commit, .bool a.ok, .slice a.ents.a a.ents.l.length a.ents.c, I64 a.base.index, I64 a.base.term, .slice a.base.cfg.v.a a.base.cfg.v.l.length a.base.cfg.v.c, .slice a.base.cfg.o.a a.base.cfg.o.l.length a.base.cfg.o.c, .slice a.base.cfg.l.a a.base.cfg.l.l.length a.base.cfg.l.c, .slice a.base.cfg.w.a a.base.cfg.w.l.length a.base.cfg.w.c, I64 a.size, I64 a.at_, I64 a.tag, .slice a.bytes.a a.bytes.l.length a.bytes.c] _ lx21 Try.underlying40 rfl (by kernel_rfl) ?_)
                  refine (c3 w21 (q20.tr q21)).mono ?_
                  rintro e w22 ⟨rfl, q22⟩
                  go_wp2_with fail
                  go_ret
                  exact ⟨rfl, Qz.tr ((q20.tr q21).tr q22)⟩
end Go.Proofs.Ytippdjaakcgeoaa
