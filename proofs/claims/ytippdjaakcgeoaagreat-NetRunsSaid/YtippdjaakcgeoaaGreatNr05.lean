/- Lemmas of the walks: ClF, NoC, NoD. (Laid together by shake.py.) -/
import Derived.Deep.QuietTactic
import Derived.DeepKeys4
import Derived.WideKeyPair
import Derived.Laws.Cover3
import Derived.Test.YtippdjaakcgeoaaGreatNr02
import Derived.Test.YtippdjaakcgeoaaGreatNr04
set_option linter.unusedVariables false
set_option linter.unusedSimpArgs false
namespace Go.Proofs.YtippdjaakcgeoaaGreat
open Go Go.RowKit
set_option linter.unusedVariables false
set_option linter.unusedSimpArgs false
/-- The blocks of an entry's lists. -/
def CfgHas (c : CfgM) (k : Nat) : Prop := inA c.v.a k ∨ inA c.o.a k ∨ inA c.l.a k ∨ inA c.w.a k
def EntHas (e : EntM) (k : Nat) : Prop := inA e.cmd.a k ∨ CfgHas e.cfg k
/-- An entry whose lists are its own. -/
structure EntOwn (w0 w : World) (e : EntM) : Prop where
  kind : 0 ≤ e.kind ∧ e.kind ≤ 255
  cmd : LsOwn w0 w 5 1 bytesC e.cmd
  cfg : CfgOwn w0 w e.cfg
section
variable {w0 w1 w w' : World} {S : Nat → Prop}
theorem CfgOwn.has {c : CfgM} (h : CfgOwn w0 w c) : ∀ k, CfgHas c k → w0.heap.size ≤ k ∧ k < w.heap.size := by
  rintro k (h1 | h1 | h1 | h1)
  · exact ⟨h.v.base k h1, h.v.lt k h1⟩
  · exact ⟨h.o.base k h1, h.o.lt k h1⟩
  · exact ⟨h.l.base k h1, h.l.lt k h1⟩
  · exact ⟨h.w.base k h1, h.w.lt k h1⟩
theorem EntOwn.has {e : EntM} (h : EntOwn w0 w e) : ∀ k, EntHas e k → w0.heap.size ≤ k ∧ k < w.heap.size := by
  rintro k (h1 | h1)
  · exact ⟨h.cmd.base k h1, h.cmd.lt k h1⟩
  · exact h.cfg.has k h1
theorem EntOwn.fr {e : EntM} (h : EntOwn w0 w e) (f : Fr S w w') (hn : ∀ k, w0.heap.size ≤ k → ¬ S k) : EntOwn w0 w' e := ⟨h.kind, h.cmd.fr f (fun k hk => hn k (h.cmd.base k hk)), h.cfg.fr f hn⟩
theorem EntOwn.nw {e : EntM} (h : EntOwn w0 w e) (f : Nw w w') : EntOwn w0 w' e := ⟨h.kind, h.cmd.nw f, h.cfg.nw f⟩
theorem EntOwn.from_ {e : EntM} (h : EntOwn w1 w e) (hb : w0.heap.size ≤ w1.heap.size) : EntOwn w0 w e := ⟨h.kind, h.cmd.from_ hb, h.cfg.from_ hb⟩
theorem EntOwn.in_ {e : EntM} (h : EntOwn w0 w e) : EntIn w (Since w0) e := ⟨h.kind, h.cmd.in_, h.cfg.in_⟩
end
def EntBefore (e f : EntM) : Prop := ∀ k j, EntHas e k → EntHas f j → k < j
/-- A letter whose lists are its own: its bytes, its entries, their lists one entry behind the other, its base's config. -/
structure LetOwn (w0 w : World) (y : LetM) : Prop where
  kind : 0 ≤ y.kind ∧ y.kind ≤ 255
  bytes : LsOwn w0 w 5 1 bytesC y.bytes
  ents : LsOwn w0 w 87 7 entsC y.ents
  each : ∀ e ∈ y.ents.l, EntOwn w0 w e
  cfg : CfgOwn w0 w y.base.cfg
  sorted : y.ents.l.Pairwise EntBefore
  ahead : ∀ e ∈ y.ents.l, ∀ k j, inA y.bytes.a k → EntHas e j → k < j
  behind : ∀ e ∈ y.ents.l, ∀ k j, EntHas e k → CfgHas y.base.cfg j → k < j
theorem LetOwn.in_ {w0 w : World} {y : LetM} (h : LetOwn w0 w y) : LetIn w (Since w0) y := ⟨h.kind, h.ents.in_, fun e he => (h.each e he).in_, h.cfg.in_, h.bytes.in_⟩
theorem LetOwn.nw {w0 w w' : World} {y : LetM} (h : LetOwn w0 w y) (f : Nw w w') : LetOwn w0 w' y := { h with bytes := h.bytes.nw f, ents := h.ents.nw f, each := fun e he => (h.each e he).nw f, cfg := h.cfg.nw f }
theorem LetOwn.fr {w0 w w' : World} {S : Nat → Prop} {y : LetM} (h : LetOwn w0 w y) (f : Fr S w w') (hn : ∀ k, w0.heap.size ≤ k → ¬ S k) : LetOwn w0 w' y :=
  { h with bytes := h.bytes.fr f (fun k hk => hn k (h.bytes.base k hk)), ents := h.ents.fr f (fun k hk => hn k (h.ents.base k hk)), each := fun e he => (h.each e he).fr f hn, cfg := h.cfg.fr f hn }
theorem LetOwn.from_ {w0 w1 w : World} {y : LetM} (h : LetOwn w1 w y) (hb : w0.heap.size ≤ w1.heap.size) : LetOwn w0 w y :=
  { h with bytes := h.bytes.from_ hb, ents := h.ents.from_ hb, each := fun e he => (h.each e he).from_ hb, cfg := h.cfg.from_ hb }
/-- Behind the first line: the bytes and the entries are cloned. -/
def CpMid (w W1 : World) (X Y : Nat) (x : LetM) (wx : World) : Prop := ∃ (A1 : Option Addr) (c1 : Nat) (A2 : Option Addr) (c2 : Nat),
  Blk wx X 50 #[U8V x.kind, I64 x.group, I64 x.src, I64 x.dst, I64 x.term, I64 x.index, I64 x.logt, I64 x.commit, .bool x.ok, .slice A2 x.ents.l.length c2, I64 x.base.index, I64 x.base.term, .slice x.base.cfg.v.a x.base.cfg.v.l.length x.base.cfg.v.c, .slice x.base.cfg.o.a x.base.cfg.o.l.length x.base.cfg.o.c, .slice x.base.cfg.l.a x.base.cfg.l.l.length x.base.cfg.l.c, .slice x.base.cfg.w.a x.base.cfg.w.l.length x.base.cfg.w.c, I64 x.size, I64 x.at_, I64 x.tag, .slice A1 x.bytes.l.length c1] ∧ Blk wx Y 50 #[U8V 0, I64 0, I64 0, I64 0, I64 0, I64 0, I64 0, I64 0, .bool false, .slice none 0 0, I64 0, I64 0, .slice none 0 0, .slice none 0 0, .slice none 0 0, .slice none 0 0, I64 0, I64 0, I64 0, .slice none 0 0] ∧ LsOwn W1 wx 5 1 bytesC ⟨A1, c1, x.bytes.l⟩ ∧ LsOwn W1 wx 87 7 entsC ⟨A2, c2, x.ents.l⟩ ∧ Nw w wx ∧ W1.heap.size ≤ wx.heap.size
def CpRel (W : World) (xs : List EntM) (A : Option Addr) (c : Nat) (i : Value) (wr : World) : Prop := ∃ (k : Nat) (ys : List EntM), k ≤ xs.length ∧ i = .int .i64 k ∧ ys.length = k ∧ ys.map EntM.x = (xs.take k).map EntM.x ∧
  Own wr 87 7 A xs.length c (entsC (ys ++ xs.drop k)) ∧ (∀ y ∈ ys, EntOwn W wr y) ∧ ys.Pairwise EntBefore ∧ Fr (inA A) W wr
theorem entsC_put (ys : List EntM) (e y : EntM) (r : List EntM) (cv : List Value) (hy : y.cfg.v.v :: [y.cfg.o.v, y.cfg.l.v, y.cfg.w.v] = cv) (h1 : y.term = e.term) (h2 : y.kind = e.kind) : putL (putL (entsC (ys ++ e :: r)) (ys.length * 7 + 2) [y.cmd.v]) (ys.length * 7 + 3) cv = entsC ((ys ++ [y]) ++ r) := by
  subst hy
  have e0 : entsC (ys ++ e :: r) = entsC ys ++ (entL e ++ entsC r) := by simp [entsC, entF]
  have e1 : entsC ((ys ++ [y]) ++ r) = entsC ys ++ (entL y ++ entsC r) := by simp [entsC, entF]
  have hl := entsC_len ys
  rw [e0, e1, ← hl]
  generalize entsC ys = p
  induction p with
  | nil =>
    simp only [List.length_nil, List.nil_append, Nat.zero_add]
    show putL (putL (I64 e.term :: U8V e.kind :: e.cmd.v :: e.cfg.v.v :: e.cfg.o.v :: e.cfg.l.v :: e.cfg.w.v :: entsC r) 2 [y.cmd.v]) 3 [y.cfg.v.v, y.cfg.o.v, y.cfg.l.v, y.cfg.w.v] = _
    rw [← h1, ← h2]
    simp only [putL]
    cases entsC r <;> rfl
  | cons v p ih =>
    have e2 : (v :: p).length + 2 = (p.length + 2) + 1 := by have : (v :: p).length = p.length + 1 := rfl; omega
    have e3 : (v :: p).length + 3 = (p.length + 3) + 1 := by have : (v :: p).length = p.length + 1 := rfl; omega
    rw [e2, e3]
    show v :: putL (putL (p ++ (entL e ++ entsC r)) (p.length + 2) [y.cmd.v]) (p.length + 3) _ = v :: (p ++ (entL y ++ entsC r))
    rw [ih]
set_option maxRecDepth 100000 in
set_option maxHeartbeats 8000000 in
theorem lCopy_any (w : World) (F : Nat → Prop) (x : LetM) (hx : LetIn w F x) (hz : LetSz x) :
    Calls Tryz.prog 33 #[.agg (letA x)] w fun e w' => ∃ y : LetM, e = .returned (.agg (letA y)) ∧ y.x = x.x ∧ LetOwn w w' y ∧ Nw w w' := by
  obtain ⟨X, hX⟩ : ∃ X, X = w.heap.size := ⟨_, rfl⟩
  obtain ⟨Y, hY⟩ : ∃ Y, Y = w.heap.size + 1 := ⟨_, rfl⟩
  obtain ⟨W0, hW0⟩ : ∃ W, W = w.alloc (.cells #[U8V x.kind, I64 x.group, I64 x.src, I64 x.dst, I64 x.term, I64 x.index, I64 x.logt, I64 x.commit, .bool x.ok, .slice x.ents.a x.ents.l.length x.ents.c, I64 x.base.index, I64 x.base.term, .slice x.base.cfg.v.a x.base.cfg.v.l.length x.base.cfg.v.c, .slice x.base.cfg.o.a x.base.cfg.o.l.length x.base.cfg.o.c, .slice x.base.cfg.l.a x.base.cfg.l.l.length x.base.cfg.l.c, .slice x.base.cfg.w.a x.base.cfg.w.l.length x.base.cfg.w.c, I64 x.size, I64 x.at_, I64 x.tag, .slice x.bytes.a x.bytes.l.length x.bytes.c] 50) := ⟨_, rfl⟩
  have p0 : Nw w W0 := by rw [hW0]; exact (Fr.refl (fun _ => False) _).alloc _
  have x0 : Blk W0 X 50 #[U8V x.kind, I64 x.group, I64 x.src, I64 x.dst, I64 x.term, I64 x.index, I64 x.logt, I64 x.commit, .bool x.ok, .slice x.ents.a x.ents.l.length x.ents.c, I64 x.base.index, I64 x.base.term, .slice x.base.cfg.v.a x.base.cfg.v.l.length x.base.cfg.v.c, .slice x.base.cfg.o.a x.base.cfg.o.l.length x.base.cfg.o.c, .slice x.base.cfg.l.a x.base.cfg.l.l.length x.base.cfg.l.c, .slice x.base.cfg.w.a x.base.cfg.w.l.length x.base.cfg.w.c, I64 x.size, I64 x.at_, I64 x.tag, .slice x.bytes.a x.bytes.l.length x.bytes.c] := by rw [hW0, hX]; exact Blk.new _ _ _
  have hz0 : W0.heap.size = Y := by rw [hW0, hY]; simp
  obtain ⟨W1, hW1⟩ : ∃ W, W = W0.alloc (.cells #[U8V 0, I64 0, I64 0, I64 0, I64 0, I64 0, I64 0, I64 0, .bool false, .slice none 0 0, I64 0, I64 0, .slice none 0 0, .slice none 0 0, .slice none 0 0, .slice none 0 0, I64 0, I64 0, I64 0, .slice none 0 0] 50) := ⟨_, rfl⟩
  have p1 : Nw W0 W1 := by rw [hW1]; exact (Fr.refl (fun _ => False) _).alloc _
  have y1 : Blk W1 Y 50 #[U8V 0, I64 0, I64 0, I64 0, I64 0, I64 0, I64 0, I64 0, .bool false, .slice none 0 0, I64 0, I64 0, .slice none 0 0, .slice none 0 0, .slice none 0 0, .slice none 0 0, I64 0, I64 0, I64 0, .slice none 0 0] := by rw [hW1, ← hz0]; exact Blk.new _ _ _
  have x1 := x0.fr p1 (fun h => h)
  have Q1 : Nw w W1 := p0.tr p1
  have hXw : w.heap.size ≤ X := by omega
  have hYw : w.heap.size ≤ Y := by omega
  have hXY : X ≠ Y := by omega
  have hXl : X < W1.heap.size := x1.lt
  have hYl : Y < W1.heap.size := y1.lt
  have HX := Lib.hid hX
  have HY := Lib.hid hY
  have HW0 := Lib.hid hW0
  have HW1 := Lib.hid hW1
  clear hX hY hW0 hW1 hz0 x0
  have Q0 : Nw W1 W1.drew := (Fr.refl (fun _ => False) W1).drew
  have l19 : W1.drew.cell? ⟨X, 19, none⟩ = some (.slice x.bytes.a x.bytes.l.length x.bytes.c) := by simpa using (x1.fr Q0 (fun h => h)).cell 19
  have l9 : W1.drew.cell? ⟨X, 9, none⟩ = some (.slice x.ents.a x.ents.l.length x.ents.c) := by simpa using (x1.fr Q0 (fun h => h)).cell 9
  have zb : ∀ w1, Nw W1 w1 → _ := fun w1 f => clone_by w1 F x.bytes.a x.bytes.c x.bytes.l (hx.bytes.nw (Q1.tr f)).sl (by have := hz.bytes; omega)
  have ze : ∀ w1, Nw W1 w1 → _ := fun w1 f => clone_ent w1 F x.ents.a x.ents.c x.ents.l (hx.ents.nw (Q1.tr f)).sl (by have := hz.ents; omega)
  have HB := Lib.hid zb
  have HE := Lib.hid ze
  clear zb ze
  go_enter Tryz.func33, Tryz.ntmps33
  go_upto_region 1 with (fail)
  rw [← HY.out, ← HX.out, ← HW0.out, ← HW1.out]
  go_cut [] (fun wx => CpMid w W1 X Y x wx)
  case first =>
    first | (go_region_with ((first | (go_at_call 75; refine (HE.out v1 Qa).mono ?_; rintro e v2 ⟨A2, c2, rfl, o2, q2⟩; have Qb := Qa.tr q2; have xb := x1.fr Qb (fun h => h); have xf19 := xb.frozen 19; have xf9 := xb.frozen 9; have xc19 : v2.cell? ⟨X, 19, none⟩ = some (.slice x.bytes.a x.bytes.l.length x.bytes.c) := (by simpa using xb.cell 19); have xc9 : v2.cell? ⟨X, 9, none⟩ = some (.slice x.ents.a x.ents.l.length x.ents.c) := (by simpa using xb.cell 9)) | (go_at_call 74; refine (HB.out _ Q0).mono ?_; rintro e v1 ⟨A1, c1, rfl, o1, q1⟩; have Qa := Q0.tr q1; have xa := x1.fr Qa (fun h => h); have xd9 : v1.cell? ⟨X, 9, none⟩ = some (.slice x.ents.a x.ents.l.length x.ents.c) := (by simpa using xa.cell 9))))) | fail
    all_goals
      go_wp2_with fail
      go_meet
      have hm : Fr (· = X) v2 ((v2.setCell ⟨X, 19, none⟩ (.slice A1 x.bytes.l.length c1)).setCell ⟨X, 9, none⟩ (.slice A2 x.ents.l.length c2)) := ((Fr.refl (· = X) v2).set1 19 _).set1 9 _
      refine ⟨A1, c1, A2, c2, (xb.set_ 19 _).set_ 9 _, (y1.fr Qb (fun h => h)).fr hm (fun e => hXY e.symm), ((o1.nw q2).from_ Q0.size).fr hm (fun k hk e => ?_), (o2.from_ Qa.size).fr hm (fun k hk e => ?_), (Q1.tr Qb).new hm (fun b hb => by omega), Nat.le_trans Qb.size hm.size⟩
      · have := o1.base k hk
        have := Q0.size
        omega
      · have := o2.base k hk
        have := Qa.size
        omega
  case rest =>
    obtain ⟨A1, c1, A2, c2, x2, y2, ob, oe, Q2, hsz2⟩ := hcut
    obtain ⟨W3, hW3⟩ : ∃ W, W = wc := ⟨_, rfl⟩
    rw [← hW3] at x2 y2 ob oe Q2 hsz2 ⊢
    clear hW3 l19 l9 Q0
    have c9 : W3.cell? ⟨X, 9, none⟩ = some (.slice A2 x.ents.l.length c2) := by simpa using x2.cell 9
    obtain ⟨xs, hxs⟩ : ∃ xs, x.ents.l = xs := ⟨_, rfl⟩
    have hin := hx.each
    have hzz := hz.each
    have hlen := hz.ents
    simp only [hxs] at x2 oe c9 hin hzz hlen ⊢
    have HXS := Lib.hid hxs
    have HIN := Lib.hid hin
    have HZZ := Lib.hid hzz
    have hbl : ∀ k, inA A2 k → W1.heap.size ≤ k ∧ k < W3.heap.size := fun k hk => ⟨oe.base k hk, oe.own.lt k hk⟩
    have hXA : ¬ inA A2 X := fun h => by have := hbl X h; omega
    have hYA : ¬ inA A2 Y := fun h => by have := hbl Y h; omega
    have hAE : ∀ k, W3.heap.size ≤ k → ¬ inA A2 k := fun k hk h => by have := hbl k h; omega
    clear hxs hin hzz
    go_wp2_with fail
    go_loopw [16] (fun i wr => CpRel W3 xs A2 c2 i wr) (fun i _ => xs.length - (intOf i).toNat)
    case atStart => exact ⟨0, [], Nat.zero_le _, rfl, rfl, rfl, oe.own, (by intro y hy; cases hy), List.Pairwise.nil, Fr.refl _ _⟩
    case round =>
      obtain ⟨k, ys, hk, rfl, hyl, ht, ho, hys, hsr, hq⟩ := hrel
      have HT := Lib.hid ht
      have HYS := Lib.hid hys
      have HSR := Lib.hid hsr
      clear ht hys hsr
      have xr := x2.fr hq hXA
      have yr := y2.fr hq hYA
      by_cases hlt : k < xs.length
      · have hi0 : (k : Int) < (xs.length : Int) := by omega
        obtain ⟨G, hG⟩ : ∃ G, A2 = some ⟨G, 0, none⟩ := by
          rcases ho.2 with ⟨_, h, _⟩ | ⟨g, cur, h, _⟩
          · omega
          · exact ⟨g, h⟩
        subst hG
        obtain ⟨e, he⟩ : ∃ e, xs[k] = e := ⟨_, rfl⟩
        have hdr : xs.drop k = e :: xs.drop (k + 1) := by rw [← he]; exact List.drop_eq_getElem_cons hlt
        rw [hdr] at ho
        have hek : e ∈ xs := by rw [← he]; exact List.getElem_mem hlt
        have ie : EntIn wr (fun b => b < w.heap.size ∧ F b) e := ((HIN.out e hek).mono fun j h1 h2 => ⟨h2, h1⟩).fr (Q2.on.trans hq (fun b hb => .inr (by have := hbl b hb; omega))) (fun j hj h => h)
        have ze := HZZ.out e hek
        have hyk : (ys ++ e :: xs.drop (k + 1))[k]'(by simp; omega) = e := by
          rw [List.getElem_append_right (by omega)]
          simp [hyl]
        have hlt2 : k < (ys ++ e :: xs.drop (k + 1)).length := by simp; omega
        obtain ⟨b, o, hbo, hb, hbl2, hc⟩ := Sl.ent ho.sl hlt2
        obtain ⟨rfl, rfl⟩ : G = b ∧ o = 0 := by
          injection hbo with hbo
          injection hbo with h1 h2
          exact ⟨h1, h2.symm⟩
        rw [hyk] at hc
        simp only [Nat.zero_add] at hc
        clear hyk hlt2 hbo hb hbl2
        obtain ⟨E, hE⟩ : ∃ E, E = wr.heap.size := ⟨_, rfl⟩
        obtain ⟨V0, hV0⟩ : ∃ V, V = wr.alloc (.cells #[I64 0, U8V 0, .slice none 0 0, .slice none 0 0, .slice none 0 0, .slice none 0 0, .slice none 0 0] 87) := ⟨_, rfl⟩
        have qv0 : Nw wr V0 := by rw [hV0]; exact (Fr.refl (fun _ => False) wr).alloc _
        have g0 : Blk V0 E 87 #[I64 0, U8V 0, .slice none 0 0, .slice none 0 0, .slice none 0 0, .slice none 0 0, .slice none 0 0] := by rw [hV0, hE]; exact Blk.new _ _ _
        obtain ⟨V1, hV1⟩ : ∃ V, V = V0.setCells E 0 [I64 e.term, U8V e.kind, .slice e.cmd.a e.cmd.l.length e.cmd.c, .slice e.cfg.v.a e.cfg.v.l.length e.cfg.v.c, .slice e.cfg.o.a e.cfg.o.l.length e.cfg.o.c, .slice e.cfg.l.a e.cfg.l.l.length e.cfg.l.c, .slice e.cfg.w.a e.cfg.w.l.length e.cfg.w.c] := ⟨_, rfl⟩
        have g1 : Blk V1 E 87 #[I64 e.term, U8V e.kind, .slice e.cmd.a e.cmd.l.length e.cmd.c, .slice e.cfg.v.a e.cfg.v.l.length e.cfg.v.c, .slice e.cfg.o.a e.cfg.o.l.length e.cfg.o.c, .slice e.cfg.l.a e.cfg.l.l.length e.cfg.l.c, .slice e.cfg.w.a e.cfg.w.l.length e.cfg.w.c] := by rw [hV1]; exact Blk.setCells (l := [I64 0, U8V 0, .slice none 0 0, .slice none 0 0, .slice none 0 0, .slice none 0 0, .slice none 0 0]) g0 0 [I64 e.term, U8V e.kind, .slice e.cmd.a e.cmd.l.length e.cmd.c, .slice e.cfg.v.a e.cfg.v.l.length e.cfg.v.c, .slice e.cfg.o.a e.cfg.o.l.length e.cfg.o.c, .slice e.cfg.l.a e.cfg.l.l.length e.cfg.l.c, .slice e.cfg.w.a e.cfg.w.l.length e.cfg.w.c]
        have m1 : Fr (· = E) V0 V1 := by rw [hV1]; exact (Fr.refl (· = E) _).setCells _ _
        have qv1 : Nw wr V1 := qv0.new m1 (fun b hb => by omega)
        have th1 := Blk.there (l := [I64 0, U8V 0, .slice none 0 0, .slice none 0 0, .slice none 0 0, .slice none 0 0, .slice none 0 0]) g0 0 7 (by show 0 + 7 ≤ 7; omega)
        have one1 := entA_one e
        have HE0 := Lib.hid hE
        have HV0 := Lib.hid hV0
        have HV1 := Lib.hid hV1
        have HEQ := Lib.hid he
        have HDR := Lib.hid hdr
        have hEG : E ≠ G := by have := hbl G ((inA_some _ _).2 rfl); have := hq.size; omega
        have hEX : X ≠ E := by have := xr.lt; omega
        have hGX : X ≠ G := fun e => hXA ((inA_some _ _).2 e)
        clear hE hV0 hV1 he hdr
        go_upto_region 5 with (first | (refine wl_load_cells rfl 87 _ rfl G (k * 7) rfl [I64 e.term, U8V e.kind, .slice e.cmd.a e.cmd.l.length e.cmd.c, .slice e.cfg.v.a e.cfg.v.l.length e.cfg.v.c, .slice e.cfg.o.a e.cfg.o.l.length e.cfg.o.c, .slice e.cfg.l.a e.cfg.l.l.length e.cfg.l.c, .slice e.cfg.w.a e.cfg.w.l.length e.cfg.w.c] _ hc Tryz.underlying87 rfl (by kernel_rfl) ?_) | (rw [← HE0.out, ← HV0.out]; refine wpList_store_mid rfl 87 _ _ rfl E 0 #[I64 e.term, U8V e.kind, .slice e.cmd.a e.cmd.l.length e.cmd.c, .slice e.cfg.v.a e.cfg.v.l.length e.cfg.v.c, .slice e.cfg.o.a e.cfg.o.l.length e.cfg.o.c, .slice e.cfg.l.a e.cfg.l.l.length e.cfg.l.c, .slice e.cfg.w.a e.cfg.w.l.length e.cfg.w.c] rfl rfl th1 (by kernel_rfl) one1 ?_; rw [← HV1.out]))
        have hS : ∀ w1, Nw V1 w1 → w1.cell? ⟨X, 9, none⟩ = some (.slice (some ⟨G, 0, none⟩) xs.length c2) ∧ w1.cell? ⟨E, 2, none⟩ = some (.slice e.cmd.a e.cmd.l.length e.cmd.c) ∧ w1.cell? ⟨E, 3, none⟩ = some (.slice e.cfg.v.a e.cfg.v.l.length e.cfg.v.c) ∧ w1.cell? ⟨E, 4, none⟩ = some (.slice e.cfg.o.a e.cfg.o.l.length e.cfg.o.c) ∧ w1.cell? ⟨E, 5, none⟩ = some (.slice e.cfg.l.a e.cfg.l.l.length e.cfg.l.c) ∧ w1.cell? ⟨E, 6, none⟩ = some (.slice e.cfg.w.a e.cfg.w.l.length e.cfg.w.c) := fun w1 f => by
          have a := (xr.fr qv1 (fun h => h)).fr f (fun h => h)
          have b := g1.fr f (fun h => h)
          exact ⟨by simpa using a.cell 9, by simpa using b.cell 2, by simpa using b.cell 3, by simpa using b.cell 4, by simpa using b.cell 5, by simpa using b.cell 6⟩
        have hS2 : ∀ w1, (∃ w5, Nw V1 w5 ∧ Fr (· = G) w5 w1) → w1.cell? ⟨X, 9, none⟩ = some (.slice (some ⟨G, 0, none⟩) xs.length c2) ∧ w1.cell? ⟨E, 2, none⟩ = some (.slice e.cmd.a e.cmd.l.length e.cmd.c) ∧ w1.cell? ⟨E, 3, none⟩ = some (.slice e.cfg.v.a e.cfg.v.l.length e.cfg.v.c) ∧ w1.cell? ⟨E, 4, none⟩ = some (.slice e.cfg.o.a e.cfg.o.l.length e.cfg.o.c) ∧ w1.cell? ⟨E, 5, none⟩ = some (.slice e.cfg.l.a e.cfg.l.l.length e.cfg.l.c) ∧ w1.cell? ⟨E, 6, none⟩ = some (.slice e.cfg.w.a e.cfg.w.l.length e.cfg.w.c) := by
          rintro w1 ⟨w5, f, g⟩
          have a := ((xr.fr qv1 (fun h => h)).fr f (fun h => h)).fr g hGX
          have b := (g1.fr f (fun h => h)).fr g hEG
          exact ⟨by simpa using a.cell 9, by simpa using b.cell 2, by simpa using b.cell 3, by simpa using b.cell 4, by simpa using b.cell 5, by simpa using b.cell 6⟩
        have HS2 := Lib.hid hS2
        clear hS2
        have hN : ∀ w1, Nw V1 w1 → (w1.cell? ⟨G, k * 7 + 2, none⟩ = some (.slice e.cmd.a e.cmd.l.length e.cmd.c) ∧ w1.frozen? ⟨G, k * 7 + 2, none⟩ = false) ∧ (w1.cell? ⟨G, k * 7 + 3, none⟩ = some (.slice e.cfg.v.a e.cfg.v.l.length e.cfg.v.c) ∧ w1.frozen? ⟨G, k * 7 + 3, none⟩ = false) ∧ (w1.cell? ⟨G, k * 7 + 4, none⟩ = some (.slice e.cfg.o.a e.cfg.o.l.length e.cfg.o.c) ∧ w1.frozen? ⟨G, k * 7 + 4, none⟩ = false) ∧ (w1.cell? ⟨G, k * 7 + 5, none⟩ = some (.slice e.cfg.l.a e.cfg.l.l.length e.cfg.l.c) ∧ w1.frozen? ⟨G, k * 7 + 5, none⟩ = false) ∧ (w1.cell? ⟨G, k * 7 + 6, none⟩ = some (.slice e.cfg.w.a e.cfg.w.l.length e.cfg.w.c) ∧ w1.frozen? ⟨G, k * 7 + 6, none⟩ = false) := fun w1 f => by
          have b := Later.cells hc w1 ⟨⟨w1, qv1.tr f⟩, rfl⟩
          have o := ho.fr (qv1.tr f) (fun _ _ h => h)
          exact ⟨⟨b 2 _ rfl, o.frozenAt _⟩, ⟨b 3 _ rfl, o.frozenAt _⟩, ⟨b 4 _ rfl, o.frozenAt _⟩, ⟨b 5 _ rfl, o.frozenAt _⟩, ⟨b 6 _ rfl, o.frozenAt _⟩⟩
        have HN := Lib.hid hN
        clear hN
        have zc : ∀ w1, Nw V1 w1 → _ := fun w1 f => clone_by w1 _ e.cmd.a e.cmd.c e.cmd.l (ie.cmd.nw (qv1.tr f)).sl (by have := ze.cmd; omega)
        have zf : ∀ w1, Nw V1 w1 → _ := fun w1 f => lconfig_any w1 _ e.cfg (ie.cfg.nw (qv1.tr f)) ze.cfg
        have HS := Lib.hid hS
        have ZC := Lib.hid zc
        have ZF := Lib.hid zf
        have Qd : Nw V1 V1.drew := (Fr.refl (fun _ => False) V1).drew
        have hki : ((k : Int) < 0) = False := by simp
        clear hS zc zf xr yr g1 ie
        first | (go_region_held3 (fun w' => w'.cell? ⟨X, 9, none⟩ = some (.slice (some ⟨G, 0, none⟩) xs.length c2) ∧ w'.cell? ⟨E, 2, none⟩ = some (.slice e.cmd.a e.cmd.l.length e.cmd.c) ∧ w'.cell? ⟨E, 3, none⟩ = some (.slice e.cfg.v.a e.cfg.v.l.length e.cfg.v.c) ∧ w'.cell? ⟨E, 4, none⟩ = some (.slice e.cfg.o.a e.cfg.o.l.length e.cfg.o.c) ∧ w'.cell? ⟨E, 5, none⟩ = some (.slice e.cfg.l.a e.cfg.l.l.length e.cfg.l.c) ∧ w'.cell? ⟨E, 6, none⟩ = some (.slice e.cfg.w.a e.cfg.w.l.length e.cfg.w.c)) (first | (with_reducible exact HS.out _ Qd) | (with_reducible exact s4) | (with_reducible exact s5) | (refine HS2.out _ ⟨w5, Q5, ?_⟩; (repeat (first | exact Fr.refl _ _ | apply Fr.set1 | apply Fr.setCells)); done) | fail)
          ((first | (go_at_call 76; refine (ZF.out w4 Q4).mono ?_; rintro e w5 ⟨y, rfl, ey, oy, q5⟩; have Q5 := Q4.tr q5; have s5 := HS.out w5 Q5; obtain ⟨⟨nc2, nf2⟩, ⟨nc3, nf3⟩, ⟨nc4, nf4⟩, ⟨nc5, nf5⟩, nc6, nf6⟩ := HN.out w5 Q5) | (go_at_call 74; refine (ZC.out _ Qd).mono ?_; rintro e w4 ⟨A4, c4, rfl, o4, q4⟩; have Q4 := Qd.tr q4; have s4 := HS.out w4 Q4)))) | fail
        go_wp2_with fail
        go_roundw
        case rel =>
          obtain ⟨w6, hw6⟩ : ∃ w6, w6 = (w5.setCells G (k * 7 + 2) [.slice A4 e.cmd.l.length c4]).setCells G (k * 7 + 3) [.slice y.v.a y.v.l.length y.v.c, .slice y.o.a y.o.l.length y.o.c, .slice y.l.a y.l.l.length y.l.c, .slice y.w.a y.w.l.length y.w.c] := ⟨_, rfl⟩
          show CpRel W3 xs (some ⟨G, 0, none⟩) c2 _ ((w5.setCells G (k * 7 + 2) [.slice A4 e.cmd.l.length c4]).setCells G (k * 7 + 3) [.slice y.v.a y.v.l.length y.v.c, .slice y.o.a y.o.l.length y.o.c, .slice y.l.a y.l.l.length y.l.c, .slice y.w.a y.w.l.length y.w.c])
          rw [← hw6]
          have ho5 := ho.fr (qv1.tr Q5) (fun _ _ h => h)
          have ho6 := (ho5.storeL (k * 7 + 2) [.slice A4 e.cmd.l.length c4]).storeL (k * 7 + 3) [.slice y.v.a y.v.l.length y.v.c, .slice y.o.a y.o.l.length y.o.c, .slice y.l.a y.l.l.length y.l.c, .slice y.w.a y.w.l.length y.w.c]
          rw [← hw6] at ho6
          have hfg : Fr (· = G) w5 w6 := by rw [hw6]; exact ((Fr.refl (· = G) w5).setCells _ _).setCells _ _
          have hput := entsC_put ys e ⟨e.term, e.kind, ⟨A4, c4, e.cmd.l⟩, y⟩ (xs.drop (k + 1)) _ rfl rfl rfl
          rw [hyl] at hput
          have hput2 : putL (putL (entsC (ys ++ e :: xs.drop (k + 1))) (k * 7 + 2) [.slice A4 e.cmd.l.length c4]) (k * 7 + 3) [.slice y.v.a y.v.l.length y.v.c, .slice y.o.a y.o.l.length y.o.c, .slice y.l.a y.l.l.length y.l.c, .slice y.w.a y.w.l.length y.w.c] = entsC ((ys ++ [⟨e.term, e.kind, ⟨A4, c4, e.cmd.l⟩, y⟩]) ++ xs.drop (k + 1)) := hput
          rw [hput2] at ho6
          have hGW : ∀ j, W3.heap.size ≤ j → ¬ j = G := fun j hj h => hAE j hj ((inA_some _ _).2 h)
          have hsz := hq.size
          have hszv := qv1.size
          have hszd := Qd.size
          have hszq := q4.size
          have own6 : EntOwn W3 w6 ⟨e.term, e.kind, ⟨A4, c4, e.cmd.l⟩, y⟩ := EntOwn.fr (w := w5) ⟨(HIN.out e hek).kind, (o4.nw q5).from_ (Nat.le_trans hsz (Nat.le_trans hszv hszd)), oy.from_ (Nat.le_trans hsz (Nat.le_trans hszv (Nat.le_trans hszd hszq)))⟩ hfg hGW
          have new6 : EntOwn wr w6 ⟨e.term, e.kind, ⟨A4, c4, e.cmd.l⟩, y⟩ := EntOwn.fr (w := w5) ⟨(HIN.out e hek).kind, (o4.nw q5).from_ (Nat.le_trans hszv hszd), oy.from_ (Nat.le_trans hszv (Nat.le_trans hszd hszq))⟩ hfg (fun j hj => hGW j (Nat.le_trans hsz hj))
          refine ⟨k + 1, ys ++ [⟨e.term, e.kind, ⟨A4, c4, e.cmd.l⟩, y⟩], by omega, by go_num, by simp [hyl], ?_, ho6, fun u hu => ?_, ?_, ?_⟩
          · rw [List.take_succ_eq_append_getElem hlt, List.map_append, List.map_append, HT.out, HEQ.out, List.map_singleton, List.map_singleton]
            show _ ++ [(⟨e.term, e.kind, e.cmd.l, y.x⟩ : Ent)] = _
            rw [ey]
          · rcases List.mem_append.1 hu with hu | hu
            · exact ((HYS.out u hu).nw (qv1.tr Q5)).fr hfg hGW
            · rw [List.mem_singleton.1 hu]; exact own6
          · refine List.pairwise_append.2 ⟨HSR.out, List.pairwise_singleton _ _, fun a ha b hb i j hi hj => ?_⟩
            rw [List.mem_singleton.1 hb] at hj
            have h1 := ((HYS.out a ha).has i hi).2
            have h2 := (new6.has j hj).1
            omega
          · exact (hq.tr (Nw.on (qv1.tr Q5))).trans hfg (fun b hb => .inl ((inA_some _ _).2 hb))
        case measure => simp [intOf]; omega
      · obtain rfl : xs.length = k := by omega
        have cb : ∀ p u, ([.slice x.base.cfg.v.a x.base.cfg.v.l.length x.base.cfg.v.c, .slice x.base.cfg.o.a x.base.cfg.o.l.length x.base.cfg.o.c, .slice x.base.cfg.l.a x.base.cfg.l.l.length x.base.cfg.l.c, .slice x.base.cfg.w.a x.base.cfg.w.l.length x.base.cfg.w.c] : List Value)[p]? = some u → wr.cell? ⟨X, 12 + p, none⟩ = some u := Blk.cells_in xr 12 4
        have ib := (hx.cfg.mono (F' := fun j => j < w.heap.size ∧ F j) fun j h1 h2 => ⟨h2, h1⟩).fr (Q2.on.trans hq (fun b hb => .inr (by have := hbl b hb; omega))) (fun j hj h => h)
        have hcf := lconfig_any wr _ x.base.cfg ib hz.cfg
        go_wp2_with (refine wl_load_cells rfl 45 _ rfl X 12 rfl [.slice x.base.cfg.v.a x.base.cfg.v.l.length x.base.cfg.v.c, .slice x.base.cfg.o.a x.base.cfg.o.l.length x.base.cfg.o.c, .slice x.base.cfg.l.a x.base.cfg.l.l.length x.base.cfg.l.c, .slice x.base.cfg.w.a x.base.cfg.w.l.length x.base.cfg.w.c] _ cb Tryz.underlying45 rfl (by kernel_rfl) ?_)
        refine hcf.mono ?_
        rintro e w4 ⟨y, rfl, ey, oy, q4⟩
        have x4 := xr.fr q4 (fun h => h)
        have y4 := yr.fr q4 (fun h => h)
        have th := Blk.there (l := [U8V x.kind, I64 x.group, I64 x.src, I64 x.dst, I64 x.term, I64 x.index, I64 x.logt, I64 x.commit, .bool x.ok, .slice A2 xs.length c2, I64 x.base.index, I64 x.base.term, .slice x.base.cfg.v.a x.base.cfg.v.l.length x.base.cfg.v.c, .slice x.base.cfg.o.a x.base.cfg.o.l.length x.base.cfg.o.c, .slice x.base.cfg.l.a x.base.cfg.l.l.length x.base.cfg.l.c, .slice x.base.cfg.w.a x.base.cfg.w.l.length x.base.cfg.w.c, I64 x.size, I64 x.at_, I64 x.tag, .slice A1 x.bytes.l.length c1]) x4 12 4 (by show 12 + 4 ≤ 20; omega)
        have one := cfgA_one y
        obtain ⟨w5, hw5⟩ : ∃ W, W = w4.setCells X 12 [.slice y.v.a y.v.l.length y.v.c, .slice y.o.a y.o.l.length y.o.c, .slice y.l.a y.l.l.length y.l.c, .slice y.w.a y.w.l.length y.w.c] := ⟨_, rfl⟩
        have m5 : Fr (· = X) w4 w5 := by rw [hw5]; exact (Fr.refl (· = X) _).setCells _ _
        have x5 : Blk w5 X 50 #[U8V x.kind, I64 x.group, I64 x.src, I64 x.dst, I64 x.term, I64 x.index, I64 x.logt, I64 x.commit, .bool x.ok, .slice A2 xs.length c2, I64 x.base.index, I64 x.base.term, .slice y.v.a y.v.l.length y.v.c, .slice y.o.a y.o.l.length y.o.c, .slice y.l.a y.l.l.length y.l.c, .slice y.w.a y.w.l.length y.w.c, I64 x.size, I64 x.at_, I64 x.tag, .slice A1 x.bytes.l.length c1] := by rw [hw5]; exact Blk.setCells (l := [U8V x.kind, I64 x.group, I64 x.src, I64 x.dst, I64 x.term, I64 x.index, I64 x.logt, I64 x.commit, .bool x.ok, .slice A2 xs.length c2, I64 x.base.index, I64 x.base.term, .slice x.base.cfg.v.a x.base.cfg.v.l.length x.base.cfg.v.c, .slice x.base.cfg.o.a x.base.cfg.o.l.length x.base.cfg.o.c, .slice x.base.cfg.l.a x.base.cfg.l.l.length x.base.cfg.l.c, .slice x.base.cfg.w.a x.base.cfg.w.l.length x.base.cfg.w.c, I64 x.size, I64 x.at_, I64 x.tag, .slice A1 x.bytes.l.length c1]) x4 12 [.slice y.v.a y.v.l.length y.v.c, .slice y.o.a y.o.l.length y.o.c, .slice y.l.a y.l.l.length y.l.c, .slice y.w.a y.w.l.length y.w.c]
        have y5 := y4.fr m5 (fun h => hXY h.symm)
        have lz := Blk.cells_at (l := [U8V x.kind, I64 x.group, I64 x.src, I64 x.dst, I64 x.term, I64 x.index, I64 x.logt, I64 x.commit, .bool x.ok, .slice A2 xs.length c2, I64 x.base.index, I64 x.base.term, .slice y.v.a y.v.l.length y.v.c, .slice y.o.a y.o.l.length y.o.c, .slice y.l.a y.l.l.length y.l.c, .slice y.w.a y.w.l.length y.w.c, I64 x.size, I64 x.at_, I64 x.tag, .slice A1 x.bytes.l.length c1]) x5 0
        have thz := Blk.there (l := [U8V 0, I64 0, I64 0, I64 0, I64 0, I64 0, I64 0, I64 0, .bool false, .slice none 0 0, I64 0, I64 0, .slice none 0 0, .slice none 0 0, .slice none 0 0, .slice none 0 0, I64 0, I64 0, I64 0, .slice none 0 0]) y5 0 20 (by show 0 + 20 ≤ 20; omega)
        obtain ⟨w6, hw6⟩ : ∃ W, W = w5.setCells Y 0 [U8V x.kind, I64 x.group, I64 x.src, I64 x.dst, I64 x.term, I64 x.index, I64 x.logt, I64 x.commit, .bool x.ok, .slice A2 xs.length c2, I64 x.base.index, I64 x.base.term, .slice y.v.a y.v.l.length y.v.c, .slice y.o.a y.o.l.length y.o.c, .slice y.l.a y.l.l.length y.l.c, .slice y.w.a y.w.l.length y.w.c, I64 x.size, I64 x.at_, I64 x.tag, .slice A1 x.bytes.l.length c1] := ⟨_, rfl⟩
        have m6 : Fr (· = Y) w5 w6 := by rw [hw6]; exact (Fr.refl (· = Y) _).setCells _ _
        have y6 : Blk w6 Y 50 #[U8V x.kind, I64 x.group, I64 x.src, I64 x.dst, I64 x.term, I64 x.index, I64 x.logt, I64 x.commit, .bool x.ok, .slice A2 xs.length c2, I64 x.base.index, I64 x.base.term, .slice y.v.a y.v.l.length y.v.c, .slice y.o.a y.o.l.length y.o.c, .slice y.l.a y.l.l.length y.l.c, .slice y.w.a y.w.l.length y.w.c, I64 x.size, I64 x.at_, I64 x.tag, .slice A1 x.bytes.l.length c1] := by rw [hw6]; exact Blk.setCells (l := [U8V 0, I64 0, I64 0, I64 0, I64 0, I64 0, I64 0, I64 0, .bool false, .slice none 0 0, I64 0, I64 0, .slice none 0 0, .slice none 0 0, .slice none 0 0, .slice none 0 0, I64 0, I64 0, I64 0, .slice none 0 0]) y5 0 [U8V x.kind, I64 x.group, I64 x.src, I64 x.dst, I64 x.term, I64 x.index, I64 x.logt, I64 x.commit, .bool x.ok, .slice A2 xs.length c2, I64 x.base.index, I64 x.base.term, .slice y.v.a y.v.l.length y.v.c, .slice y.o.a y.o.l.length y.o.c, .slice y.l.a y.l.l.length y.l.c, .slice y.w.a y.w.l.length y.w.c, I64 x.size, I64 x.at_, I64 x.tag, .slice A1 x.bytes.l.length c1]
        have one6 : (#[U8V x.kind, I64 x.group, I64 x.src, I64 x.dst, I64 x.term, I64 x.index, I64 x.logt, I64 x.commit, .bool x.ok, .slice A2 xs.length c2, I64 x.base.index, I64 x.base.term, .slice y.v.a y.v.l.length y.v.c, .slice y.o.a y.o.l.length y.o.c, .slice y.l.a y.l.l.length y.l.c, .slice y.w.a y.w.l.length y.w.c, I64 x.size, I64 x.at_, I64 x.tag, .slice A1 x.bytes.l.length c1] : Array Value).all (·.oneCell') = true := by rw [List.all_toArray]; simp only [List.all_cons, List.all_nil]; rfl
        have el : ys.length = xs.length := hyl
        have hT := HT.out
        rw [List.take_of_length_le (Nat.le_refl _)] at hT
        have ho2 := ho
        rw [List.drop_of_length_le (Nat.le_refl _), List.append_nil] at ho2
        have res : ∃ y' : LetM, (.agg #[U8V x.kind, I64 x.group, I64 x.src, I64 x.dst, I64 x.term, I64 x.index, I64 x.logt, I64 x.commit, .bool x.ok, .slice A2 xs.length c2, I64 x.base.index, I64 x.base.term, .slice y.v.a y.v.l.length y.v.c, .slice y.o.a y.o.l.length y.o.c, .slice y.l.a y.l.l.length y.l.c, .slice y.w.a y.w.l.length y.w.c, I64 x.size, I64 x.at_, I64 x.tag, .slice A1 x.bytes.l.length c1] : Value) = .agg (letA y') ∧ y'.x = x.x ∧ LetOwn w w6 y' ∧ Nw w w6 := by
          have hAA : ∀ j, inA A1 j → ¬ inA A2 j := fun j h1 h2 => by
            rcases oe.own.2 with ⟨h, _⟩ | ⟨g, cur, h, hb, _⟩
            · exact inA_none _ (show inA none j from h ▸ h2)
            · have e1 : j = g := (inA_some _ _).1 (show inA (some ⟨g, 0, none⟩) j from h ▸ h2)
              subst e1
              exact ob.own.ne_ hb (by decide) h1
          have hm : Fr (fun j => j = X ∨ j = Y) w4 w6 := (m5.mono fun b hb => .inl (.inl hb)).tr (m6.mono fun b hb => .inl (.inr hb))
          have hn1 : ∀ j, W1.heap.size ≤ j → ¬ (j = X ∨ j = Y) := fun j hj h => by rcases h with h | h <;> omega
          have hs1 := Q1.size
          have hs3 := hq.size
          refine ⟨{ x with ents := ⟨A2, c2, ys⟩, base := ⟨x.base.index, x.base.term, y⟩, bytes := ⟨A1, c1, x.bytes.l⟩ }, by rw [← el], ?_, ⟨hx.kind, ?_, ⟨?_, fun j hj => Nat.le_trans hs1 (oe.base j hj)⟩, fun e he => ?_, ?_, HSR.out, fun e he i j hi hj => ?_, fun e he i j hi hj => ?_⟩, ?_⟩
          · show (⟨x.kind, x.group, x.src, x.dst, x.term, x.index, x.logt, x.commit, x.ok, ys.map EntM.x, ⟨x.base.index, x.base.term, y.x⟩, x.size, x.at_, x.tag, x.bytes.l⟩ : LetF) = _
            rw [hT, ey, ← HXS.out]
          · exact (((ob.fr hq hAA).nw q4).fr hm (fun j hj => hn1 j (ob.base j hj))).from_ hs1
          · show Own w6 87 7 A2 ys.length c2 (entsC ys)
            rw [el]
            exact (ho2.fr q4 (fun _ _ h => h)).fr hm (fun j hj => hn1 j (oe.base j hj))
          · exact (((HYS.out e he).nw q4).fr hm (fun j hj => hn1 j (Nat.le_trans hsz2 hj))).from_ (Nat.le_trans hs1 hsz2)
          · exact (oy.fr hm (fun j hj => hn1 j (Nat.le_trans hsz2 (Nat.le_trans hs3 hj)))).from_ (Nat.le_trans hs1 (Nat.le_trans hsz2 hs3))
          · have h1 := ob.own.lt i hi
            have h2 := ((HYS.out e he).has j hj).1
            omega
          · have h1 := ((HYS.out e he).has i hi).2
            have h2 := (oy.has j hj).1
            omega
          · exact (((Q2.new hq (fun b hb => Nat.le_trans hs1 (hbl b hb).1)).tr q4).new hm (fun b hb => by rcases hb with rfl | rfl <;> omega))
        have HR := Lib.hid res
        have HW5 := Lib.hid hw5
        have HW6 := Lib.hid hw6
        clear hw5 hw6 res hT HT HYS HSR ho ho2
        go_wp2_with (first | (refine wpList_store_mid rfl 45 _ _ rfl X 12 #[.slice y.v.a y.v.l.length y.v.c, .slice y.o.a y.o.l.length y.o.c, .slice y.l.a y.l.l.length y.l.c, .slice y.w.a y.w.l.length y.w.c] rfl rfl th (by kernel_rfl) one ?_; rw [← HW5.out]) | (refine wl_load_cells rfl 50 _ rfl X 0 rfl [U8V x.kind, I64 x.group, I64 x.src, I64 x.dst, I64 x.term, I64 x.index, I64 x.logt, I64 x.commit, .bool x.ok, .slice A2 xs.length c2, I64 x.base.index, I64 x.base.term, .slice y.v.a y.v.l.length y.v.c, .slice y.o.a y.o.l.length y.o.c, .slice y.l.a y.l.l.length y.l.c, .slice y.w.a y.w.l.length y.w.c, I64 x.size, I64 x.at_, I64 x.tag, .slice A1 x.bytes.l.length c1] _ lz Tryz.underlying50 rfl (by kernel_rfl) ?_) | (refine wpList_store_mid rfl 50 _ _ rfl Y 0 #[U8V x.kind, I64 x.group, I64 x.src, I64 x.dst, I64 x.term, I64 x.index, I64 x.logt, I64 x.commit, .bool x.ok, .slice A2 xs.length c2, I64 x.base.index, I64 x.base.term, .slice y.v.a y.v.l.length y.v.c, .slice y.o.a y.o.l.length y.o.c, .slice y.l.a y.l.l.length y.l.c, .slice y.w.a y.w.l.length y.w.c, I64 x.size, I64 x.at_, I64 x.tag, .slice A1 x.bytes.l.length c1] rfl rfl thz (by kernel_rfl) one6 ?_; rw [← HW6.out]))
        refine bodyPost_ret (v := .agg #[U8V x.kind, I64 x.group, I64 x.src, I64 x.dst, I64 x.term, I64 x.index, I64 x.logt, I64 x.commit, .bool x.ok, .slice A2 xs.length c2, I64 x.base.index, I64 x.base.term, .slice y.v.a y.v.l.length y.v.c, .slice y.o.a y.o.l.length y.o.c, .slice y.l.a y.l.l.length y.l.c, .slice y.w.a y.w.l.length y.w.c, I64 x.size, I64 x.at_, I64 x.tag, .slice A1 x.bytes.l.length c1]) ?_ rfl ?_
        · exact results_cell_row rfl _ _ Y 50 _ (0, 0) _ rfl y6 Tryz.underlying50 rfl (by kernel_rfl)
        obtain ⟨y', e1, e2, e3, e4⟩ := HR.out
        exact ⟨y', by rw [e1], e2, e3, e4⟩
end Go.Proofs.YtippdjaakcgeoaaGreat

namespace Go.Proofs.YtippdjaakcgeoaaGreat
open Go Go.RowKit
set_option linter.unusedVariables false
set_option linter.unusedSimpArgs false

theorem no_laid : laidOutB Tryz.prog = true := by kernel_rfl
theorem no_law : Maps.Keyed Tryz.prog 90 := Maps.Keyed.of_law (deep_law_laid no_laid (m := 2) (by omega) (of_decide_eq_true (by kernel_rfl)) (by kernel_rfl) (by kernel_rfl))
theorem no_size : ∃ m, Tryz.prog.types.size = m + 1 := by
  have h : (90 : Nat) < Tryz.prog.types.size := of_decide_eq_true (by kernel_rfl)
  exact ⟨Tryz.prog.types.size - 1, by omega⟩
theorem no_arr : WideMaps.ArrKey Tryz.prog 90 3 2 := ⟨Tryz.underlying90, by kernel_rfl, by kernel_rfl, by kernel_rfl⟩
theorem two_of (cs : Array Value) (h : cs.size = 2) : ∃ c0 c1, cs = #[c0, c1] := by
  obtain ⟨l⟩ := cs
  match l, h with
  | [c0, c1], _ => exact ⟨c0, c1, rfl⟩
theorem no_inv (v : Value) (kl : Lit) (h : keyOf Tryz.prog 90 v = some kl) : ∃ n, v = nmKey n ∧ NmWf n := by
  obtain ⟨m, hm⟩ := no_size
  have hc : Tryz.prog.cellsOf 90 = 2 := by kernel_rfl
  have hci : Tryz.prog.cellsOf 3 = 1 := by kernel_rfl
  unfold keyOf at h
  simp only [Tryz.underlying90] at h
  split at h
  · rename_i hcond
    simp only [Bool.and_eq_true] at hcond
    cases v with
    | agg cs =>
      have hs : cs.size = 2 := by
        have := hcond.2
        simp only [Value.formed, Tryz.underlying90, hc] at this
        simpa using this
      obtain ⟨c0, c1, rfl⟩ := two_of cs hs
      rw [hm] at h
      unfold Program.keyLits at h
      simp only [Tryz.underlying90, Value.cells] at h
      rw [if_pos (by rw [hc]; rfl), show List.range 2 = [0, 1] from rfl, List.mapM_cons, List.mapM_cons, List.mapM_nil] at h
      simp only [hci, Option.map_map, Option.map_eq_some_iff, bind, Option.bind_eq_some_iff, pure, Option.some.injEq] at h
      obtain ⟨_, ⟨y0, h0, _, ⟨y1, h1, _⟩, _⟩, _⟩ := h
      have e0 : ∃ x : Int, c0 = .int .i64 x ∧ (Lit.int .i64 x).wf = true := by
        unfold Program.keyLits at h0
        simp only [Tryz.underlying3] at h0
        cases c0 <;> simp at h0
        obtain ⟨⟨rfl, hw⟩, _⟩ := h0
        exact ⟨_, rfl, hw⟩
      have e1 : ∃ x : Int, c1 = .int .i64 x ∧ (Lit.int .i64 x).wf = true := by
        unfold Program.keyLits at h1
        simp only [Tryz.underlying3] at h1
        cases c1 <;> simp at h1
        obtain ⟨⟨rfl, hw⟩, _⟩ := h1
        exact ⟨_, rfl, hw⟩
      obtain ⟨x, rfl, hx⟩ := e0
      obtain ⟨y, rfl, hy⟩ := e1
      exact ⟨(x, y), rfl, hx, hy⟩
    | _ => simp [Value.formed, Tryz.underlying90] at hcond
  · cases h
theorem no_way : WayKey Tryz.prog 90 := ⟨no_law, fun n h => ⟨_, WideMaps.keyOf_pair no_arr Tryz.underlying3 no_size h.1 h.2⟩, no_inv⟩
end Go.Proofs.YtippdjaakcgeoaaGreat

namespace Go.Proofs.YtippdjaakcgeoaaGreat
open Go Go.RowKit
set_option linter.unusedVariables false
set_option linter.unusedSimpArgs false

abbrev WayMap (w : World) (b s : Nat) (f : Nm → Option Value) : Prop := MapW Tryz.prog 90 w b s f
abbrev nilLets : Value := .slice none 0 0
set_option maxRecDepth 100000 in
theorem netNew_any (w : World) : Calls Tryz.prog 10 #[] w fun e w' => e = .returned (.pointer (some ⟨w.heap.size + 1, 0, none⟩)) ∧ Blk w' (w.heap.size + 1) 58 #[.map (some w.heap.size)] ∧ WayMap w' w.heap.size 0 (fun _ => none) ∧ Nw w w' := by
  have hmm := @run_makeMap Tryz.prog
  go_enter Tryz.func10, Tryz.ntmps10
  go_wp2
  go_ret
  have hb : Blk ((w.alloc (.map #[] 0)).alloc (.cells #[.map (some w.heap.size)] 58)) (w.heap.size + 1) 58 #[.map (some w.heap.size)] := by
    simpa using Blk.new (w.alloc (.map #[] 0)) 58 #[.map (some w.heap.size)]
  have hM : WayMap (w.alloc (.map #[] 0)) w.heap.size 0 (fun _ => none) := MapW.made w
  have q : Nw (w.alloc (.map #[] 0)) ((w.alloc (.map #[] 0)).alloc (.cells #[.map (some w.heap.size)] 58)) := (Fr.refl _ _).alloc _
  exact ⟨rfl, hb, hM.fr q (fun h => h), ((Fr.refl _ w).alloc _).alloc _⟩
set_option maxRecDepth 100000 in
theorem netKnown_yes (w : World) (g m : Nat) (hb : Blk w g 58 #[.map (some m)]) :
    Calls Tryz.prog 49 #[.pointer (some ⟨g, 0, none⟩)] w fun e w' => e = .returned (.bool true) ∧ w = w' := by
  have c0 := hb.cell 0
  simp at c0
  have hne := fun (w : World) (m : Option Nat) => run_neq_map_nil (P := Tryz.prog) w 54 90 28 m Tryz.underlying54
  go_enter Tryz.func49, Tryz.ntmps49
  go_wp2
  go_ret
  exact ⟨rfl, rfl⟩
theorem zero_lets (W : World) : (zeroValue 28).run Tryz.prog W = .ok nilLets W := by kernel_rfl
set_option maxRecDepth 100000 in
set_option maxHeartbeats 4000000 in
theorem netWaits_any (w : World) (g m s : Nat) (f : Nm → Option Value) (hb : Blk w g 58 #[.map (some m)]) (hM : WayMap w m s f) (n : Nm) (hn : NmWf n) :
    Calls Tryz.prog 62 #[.pointer (some ⟨g, 0, none⟩), nmKey n] w fun e w' => e = .returned ((f n).getD nilLets) ∧ Nw w w' := by
  obtain ⟨n1, n2⟩ := n
  have q0 : Nw w (w.alloc (.cells #[I64 n1, I64 n2] 90)) := (Fr.refl _ w).alloc _
  have hB := Blk.new w 90 #[I64 n1, I64 n2]
  obtain ⟨G, hG⟩ : ∃ G, G = w.heap.size := ⟨_, rfl⟩
  obtain ⟨W, hW⟩ : ∃ W, W = w.alloc (.cells #[I64 n1, I64 n2] 90) := ⟨_, rfl⟩
  have hbW := hb.fr q0 (fun h => h)
  have hMW := hM.fr q0 (fun h => h)
  rw [← hW, ← hG] at hB
  rw [← hW] at q0 hbW hMW
  have HG := Lib.hid hG
  have HW := Lib.hid hW
  clear hG hW
  go_enter Tryz.func62, Tryz.ntmps62
  go_upto_region 1 with (fail)
  rw [← HW.out, ← HG.out]
  go_wp2_with (go_at_call 49; refine (netKnown_yes _ g m hbW).mono ?_; rintro e w' ⟨rfl, rfl⟩)
  have k0 : W.cell? ⟨G, 0, none⟩ = some (I64 n1) := by simpa using hB.cell 0
  have k1 : W.cell? ⟨G, 1, none⟩ = some (I64 n2) := by simpa using hB.cell 1
  have g0 : W.cell? ⟨g, 0, none⟩ = some (.map (some m)) := by simpa using hbW.cell 0
  have hrun : ∀ j, (Instr.lookup 54 (.map (some m)) (.agg #[I64 n1, I64 n2]) false).run Tryz.prog (W.drewN j) = .ok ((f (n1, n2)).getD nilLets) (W.drewN j) := fun j =>
    (hMW.fr ((Fr.refl (fun _ => False) W).drewN j) (fun h => h)).look1 no_way Tryz.underlying54 (zero_lets _) (n1, n2) hn
  obtain ⟨v, hv⟩ : ∃ v, v = (f (n1, n2)).getD nilLets := ⟨_, rfl⟩
  rw [← hv] at hrun
  have HV := Lib.hid hv
  clear hv
  go_quiet (fail)
  go_wp2
  go_ret
  exact ⟨by rw [← HV.out]; rfl, q0.drewN _⟩
/-- What a link set makes of a map. -/
def setW (f : Nm → Option Value) (n : Nm) (v : Option Value) : Nm → Option Value := fun x => if x = n then v else f x
set_option maxRecDepth 100000 in
set_option maxHeartbeats 4000000 in
theorem netSet_drop (w : World) (m s : Nat) (f : Nm → Option Value) (hM : WayMap w m s f) (n : Nm) (hn : NmWf n) (A : Option Addr) (c : Nat) :
    Calls Tryz.prog 50 #[.agg #[.map (some m)], nmKey n, .slice A 0 c] w fun e w' => e = .returned (.tuple #[]) ∧ WayMap w' m s (setW f n none) ∧ Fr (· = m) w w' := by
  obtain ⟨n1, n2⟩ := n
  obtain ⟨W, hW⟩ : ∃ W, W = (w.alloc (.cells #[.map (some m)] 56)).alloc (.cells #[I64 n1, I64 n2] 90) := ⟨_, rfl⟩
  have q0 : Nw w W := by rw [hW]; exact ((Fr.refl _ w).alloc _).alloc _
  have hB : Blk W (w.heap.size + 1) 90 #[I64 n1, I64 n2] := by rw [hW]; simpa using Blk.new (w.alloc (.cells #[.map (some m)] 56)) 90 #[I64 n1, I64 n2]
  have hL : Blk W w.heap.size 56 #[.map (some m)] := by rw [hW]; exact (Blk.new w 56 #[.map (some m)]).alloc _
  have hMW := hM.fr q0 (fun h => h)
  obtain ⟨G, hG⟩ : ∃ G, G = w.heap.size := ⟨_, rfl⟩
  rw [← hG] at hB hL
  have HG := Lib.hid hG
  have HW := Lib.hid hW
  clear hG hW
  have k0 : W.cell? ⟨G + 1, 0, none⟩ = some (I64 n1) := by simpa using hB.cell 0
  have k1 : W.cell? ⟨G + 1, 1, none⟩ = some (I64 n2) := by simpa using hB.cell 1
  have g0 : W.cell? ⟨G, 0, none⟩ = some (.map (some m)) := by simpa using hL.cell 0
  go_enter Tryz.func50, Tryz.ntmps50
  go_upto_region 1 with (fail)
  rw [← HW.out, ← HG.out]
  go_wp2_with (at_delete; refine wl_dropW rfl _ _ 54 90 rfl 28 no_way Tryz.underlying54 m s f rfl hMW (n1, n2) hn rfl ?_; intro w2 hM2 hf2)
  refine bodyPost_ret (results_none rfl _ _ _) rfl ?_
  exact ⟨rfl, hM2, q0.on.tr hf2⟩
set_option maxRecDepth 100000 in
set_option maxHeartbeats 4000000 in
theorem netSet_put (w : World) (m s : Nat) (f : Nm → Option Value) (hM : WayMap w m s f) (hs : s < maxLen) (n : Nm) (hn : NmWf n) (A : Option Addr) (l c : Nat) (hl : 0 < l) :
    Calls Tryz.prog 50 #[.agg #[.map (some m)], nmKey n, .slice A l c] w fun e w' => e = .returned (.tuple #[]) ∧ WayMap w' m (s + 1) (setW f n (some (.slice A l c))) ∧ Fr (· = m) w w' := by
  obtain ⟨n1, n2⟩ := n
  obtain ⟨W, hW⟩ : ∃ W, W = (w.alloc (.cells #[.map (some m)] 56)).alloc (.cells #[I64 n1, I64 n2] 90) := ⟨_, rfl⟩
  have q0 : Nw w W := by rw [hW]; exact ((Fr.refl _ w).alloc _).alloc _
  have hB : Blk W (w.heap.size + 1) 90 #[I64 n1, I64 n2] := by rw [hW]; simpa using Blk.new (w.alloc (.cells #[.map (some m)] 56)) 90 #[I64 n1, I64 n2]
  have hL : Blk W w.heap.size 56 #[.map (some m)] := by rw [hW]; exact (Blk.new w 56 #[.map (some m)]).alloc _
  have hMW := hM.fr q0 (fun h => h)
  obtain ⟨G, hG⟩ : ∃ G, G = w.heap.size := ⟨_, rfl⟩
  rw [← hG] at hB hL
  have HG := Lib.hid hG
  have HW := Lib.hid hW
  clear hG hW
  have k0 : W.cell? ⟨G + 1, 0, none⟩ = some (I64 n1) := by simpa using hB.cell 0
  have k1 : W.cell? ⟨G + 1, 1, none⟩ = some (I64 n2) := by simpa using hB.cell 1
  have g0 : W.cell? ⟨G, 0, none⟩ = some (.map (some m)) := by simpa using hL.cell 0
  have hl0 : decide ((l : Int) = 0) = false := by simp; omega
  go_enter Tryz.func50, Tryz.ntmps50
  go_upto_region 1 with (fail)
  rw [← HW.out, ← HG.out]
  go_wp2_with (at_mapUpdate; refine wl_putW rfl _ _ _ 54 rfl 90 28 no_way Tryz.underlying54 m s f rfl hMW hs (n1, n2) hn _ rfl rfl ?_; intro w2 hM2 hf2)
  refine bodyPost_end (results_none rfl _ _ _) rfl ?_
  exact ⟨rfl, hM2, q0.on.tr hf2⟩
end Go.Proofs.YtippdjaakcgeoaaGreat
