/- Lemmas of the walks: ClF, FlB. (Laid together by shake.py.) -/
import Derived.Test.YtippdjaakcgeoaaGreatEa04
set_option linter.unusedVariables false
set_option linter.unusedSimpArgs false
set_option maxRecDepth 100000
set_option maxHeartbeats 16000000
namespace Go.Proofs.YtippdjaakcgeoaaGreat
open Go Go.RowKit
def zgr (c : CfgM) (k : Nat) : Prop := inA c.v.a k ∨ inA c.o.a k ∨ inA c.l.a k ∨ inA c.w.a k
def zfp (e : EntM) (k : Nat) : Prop := inA e.cmd.a k ∨ zgr e.cfg k
structure zaV (w0 w : World) (e : EntM) : Prop where
 kind : 0 ≤ e.kind ∧ e.kind ≤ 255
 cmd : zao w0 w 5 1 zaw e.cmd
 cfg : zaQ w0 w e.cfg
section
variable {w0 w1 w w' : World} {S : Nat → Prop}
theorem zaQ.has {c : CfgM} (h : zaQ w0 w c) : ∀ k, zgr c k → w0.heap.size ≤ k ∧ k < w.heap.size := by
 rintro k (h1 | h1 | h1 | h1)
 ·exact ⟨h.v.base k h1, h.v.lt k h1⟩
 ·exact ⟨h.o.base k h1, h.o.lt k h1⟩
 ·exact ⟨h.l.base k h1, h.l.lt k h1⟩
 ·exact ⟨h.w.base k h1, h.w.lt k h1⟩
theorem zaV.has {e : EntM} (h : zaV w0 w e) : ∀ k, zfp e k → w0.heap.size ≤ k ∧ k < w.heap.size := by
 rintro k (h1 | h1)
 ·exact ⟨h.cmd.base k h1, h.cmd.lt k h1⟩
 ·exact h.cfg.has k h1
theorem zaV.fr {e : EntM} (h : zaV w0 w e) (f : Fr S w w') (hn : ∀ k, w0.heap.size ≤ k → ¬ S k) : zaV w0 w' e := ⟨h.kind, h.cmd.fr f (fun k hk => hn k (h.cmd.base k hk)), h.cfg.fr f hn⟩
theorem zaV.nw {e : EntM} (h : zaV w0 w e) (f : Nw w w') : zaV w0 w' e := ⟨h.kind, h.cmd.nw f, h.cfg.nw f⟩
theorem zaV.from_ {e : EntM} (h : zaV w1 w e) (hb : w0.heap.size ≤ w1.heap.size) : zaV w0 w e := ⟨h.kind, h.cmd.from_ hb, h.cfg.from_ hb⟩
theorem zaV.in_ {e : EntM} (h : zaV w0 w e) : zau w (zab w0) e := ⟨h.kind, h.cmd.in_, h.cfg.in_⟩
end
def zhn (e f : EntM) : Prop := ∀ k j, zfp e k → zfp f j → k < j
structure zeI (w0 w : World) (y : LetM) : Prop where
 kind : 0 ≤ y.kind ∧ y.kind ≤ 255
 bytes : zao w0 w 5 1 zaw y.bytes
 ents : zao w0 w 87 7 zal y.ents
 each : ∀ e ∈ y.ents.l, zaV w0 w e
 cfg : zaQ w0 w y.base.cfg
 sorted : y.ents.l.Pairwise zhn
 ahead : ∀ e ∈ y.ents.l, ∀ k j, inA y.bytes.a k → zfp e j → k < j
 behind : ∀ e ∈ y.ents.l, ∀ k j, zfp e k → zgr y.base.cfg j → k < j
theorem zeI.in_ {w0 w : World} {y : LetM} (h : zeI w0 w y) : za3 w (zab w0) y := ⟨h.kind, h.ents.in_, fun e he => (h.each e he).in_, h.cfg.in_, h.bytes.in_⟩
def CpMid (w W1 : World) (X Y : Nat) (x : LetM) (wx : World) : Prop := ∃ (A1 : Option Addr) (c1 : Nat) (A2 : Option Addr) (c2 : Nat),
 Blk wx X 50 #[U8V x.kind, I64 x.group, I64 x.src, I64 x.dst, I64 x.term, I64 x.index, I64 x.logt, I64 x.commit, .bool x.ok, .slice A2 x.ents.l.length c2, I64 x.base.index, I64 x.base.term, .slice x.base.cfg.v.a x.base.cfg.v.l.length x.base.cfg.v.c, .slice x.base.cfg.o.a x.base.cfg.o.l.length x.base.cfg.o.c, .slice x.base.cfg.l.a x.base.cfg.l.l.length x.base.cfg.l.c, .slice x.base.cfg.w.a x.base.cfg.w.l.length x.base.cfg.w.c, I64 x.size, I64 x.at_, I64 x.tag, .slice A1 x.bytes.l.length c1] ∧ Blk wx Y 50 zL9A ∧ zao W1 wx 5 1 zaw ⟨A1, c1, x.bytes.l⟩ ∧ zao W1 wx 87 7 zal ⟨A2, c2, x.ents.l⟩ ∧ Nw w wx ∧ W1.heap.size ≤ wx.heap.size
def CpRel (W : World) (xs : List EntM) (A : Option Addr) (c : Nat) (i : Value) (wr : World) : Prop := ∃ (k : Nat) (ys : List EntM), k ≤ xs.length ∧ i = .int .i64 k ∧ ys.length = k ∧ ys.map EntM.x = (xs.take k).map EntM.x ∧
 Own wr 87 7 A xs.length c (zal (ys ++ xs.drop k)) ∧ (∀ y ∈ ys, zaV W wr y) ∧ ys.Pairwise zhn ∧ Fr (inA A) W wr
theorem zkv (ys : List EntM) (e y : EntM) (r : List EntM) (cv : List Value) (hy : y.cfg.v.v :: [y.cfg.o.v, y.cfg.l.v, y.cfg.w.v] = cv) (h1 : y.term = e.term) (h2 : y.kind = e.kind) : putL (putL (zal (ys ++ e :: r)) (ys.length * 7 + 2) [y.cmd.v]) (ys.length * 7 + 3) cv = zal ((ys ++ [y]) ++ r) := by
 subst hy
 have e0 : zal (ys ++ e :: r) = zal ys ++ (entL e ++ zal r) := by simp [zal, entF]
 have e1 : zal ((ys ++ [y]) ++ r) = zal ys ++ (entL y ++ zal r) := by simp [zal, entF]
 have hl := zfj ys
 rw [e0, e1, ← hl]
 generalize zal ys = p
 induction p with
 | nil =>
  simp only [List.length_nil, List.nil_append, Nat.zero_add]
  show putL (putL (I64 e.term :: U8V e.kind :: e.cmd.v :: e.cfg.v.v :: e.cfg.o.v :: e.cfg.l.v :: e.cfg.w.v :: zal r) 2 [y.cmd.v]) 3 [y.cfg.v.v, y.cfg.o.v, y.cfg.l.v, y.cfg.w.v] = _
  rw [← h1, ← h2]
  simp only [putL]
  cases zal r <;> rfl
 | cons v p ih =>
  have e2 : (v :: p).length + 2 = (p.length + 2) + 1 := by have : (v :: p).length = p.length + 1 := rfl; omega
  have e3 : (v :: p).length + 3 = (p.length + 3) + 1 := by have : (v :: p).length = p.length + 1 := rfl; omega
  rw [e2, e3]
  show v :: putL (putL (p ++ (entL e ++ zal r)) (p.length + 2) [y.cmd.v]) (p.length + 3) _ = v :: (p ++ (entL y ++ zal r))
  rw [ih]
theorem zkU (w : World) (F : Nat → Prop) (x : LetM) (hx : za3 w F x) (hz : za8 x) :
  Calls Tryz.prog 33 #[.agg (letA x)] w fun e w' => ∃ y : LetM, e = .returned (.agg (letA y)) ∧ y.x = x.x ∧ zeI w w' y ∧ Nw w w' := by
 obtain ⟨X, hX⟩ : ∃ X, X = w.heap.size := ⟨_, rfl⟩
 obtain ⟨Y, hY⟩ : ∃ Y, Y = w.heap.size + 1 := ⟨_, rfl⟩
 obtain ⟨W0, hW0⟩ : ∃ W, W = w.alloc (.cells (letA x) 50) := ⟨_, rfl⟩
 have p0 : Nw w W0 := by rw [hW0]; exact (Fr.refl (fun _ => False) _).alloc _
 have x0 : Blk W0 X 50 (letA x) := by rw [hW0, hX]; exact Blk.new _ _ _
 have hz0 : W0.heap.size = Y := by rw [hW0, hY]; simp
 obtain ⟨W1, hW1⟩ : ∃ W, W = W0.alloc (.cells zL9A 50) := ⟨_, rfl⟩
 have p1 : Nw W0 W1 := by rw [hW1]; exact (Fr.refl (fun _ => False) _).alloc _
 have y1 : Blk W1 Y 50 zL9A := by rw [hW1, ← hz0]; exact Blk.new _ _ _
 have x1 := x0.fr p1 (fun h => h)
 have Q1 : Nw w W1 := p0.tr p1
 have hXw : w.heap.size ≤ X := by omega
 have hYw : w.heap.size ≤ Y := by omega
 have hXY : X ≠ Y := by omega
 have hXl : X < W1.heap.size := x1.lt
 have hYl : Y < W1.heap.size := y1.lt
 have HX := Lib.hid hX
 have HY := Lib.hid hY
 have HW0 := Lib.hid hW0
 have HW1 := Lib.hid hW1
 clear hX hY hW0 hW1 hz0 x0
 have Q0 : Nw W1 W1.drew := (Fr.refl (fun _ => False) W1).drew
 have l19 : W1.drew.cell? ⟨X, 19, none⟩ = some (.slice x.bytes.a x.bytes.l.length x.bytes.c) := by simpa using (x1.fr Q0 (fun h => h)).cell 19
 have l9 : W1.drew.cell? ⟨X, 9, none⟩ = some (.slice x.ents.a x.ents.l.length x.ents.c) := by simpa using (x1.fr Q0 (fun h => h)).cell 9
 have zb : ∀ w1, Nw W1 w1 → _ := fun w1 f => zih w1 F x.bytes.a x.bytes.c x.bytes.l (hx.bytes.nw (Q1.tr f)).sl (by have := hz.bytes; omega)
 have ze : ∀ w1, Nw W1 w1 → _ := fun w1 f => zkq w1 F x.ents.a x.ents.c x.ents.l (hx.ents.nw (Q1.tr f)).sl (by have := hz.ents; omega)
 have HB := Lib.hid zb
 have HE := Lib.hid ze
 clear zb ze
 go_enter Tryz.func33, Tryz.ntmps33
 go_upto_region 1 with (fail)
 rw [← HY.out, ← HX.out, ← HW0.out, ← HW1.out]
 go_cut [] (fun wx => CpMid w W1 X Y x wx)
 case first =>
  first | (go_region_with ((first | (go_at_call 75; refine (HE.out v1 Qa).mono ?_; rintro e v2 ⟨A2, c2, rfl, o2, q2⟩; have Qb := Qa.tr q2; have xb := x1.fr Qb (fun h => h); have xf19 := xb.frozen 19; have xf9 := xb.frozen 9; have xc19 : v2.cell? ⟨X, 19, none⟩ = some (.slice x.bytes.a x.bytes.l.length x.bytes.c) := (by simpa using xb.cell 19); have xc9 : v2.cell? ⟨X, 9, none⟩ = some (.slice x.ents.a x.ents.l.length x.ents.c) := (by simpa using xb.cell 9)) | (go_at_call 74; refine (HB.out _ Q0).mono ?_; rintro e v1 ⟨A1, c1, rfl, o1, q1⟩; have Qa := Q0.tr q1; have xa := x1.fr Qa (fun h => h); have xd9 : v1.cell? ⟨X, 9, none⟩ = some (.slice x.ents.a x.ents.l.length x.ents.c) := (by simpa using xa.cell 9))))) | fail
  all_goals
   go_wp2_with fail
   go_meet
   have hm : Fr (· = X) v2 ((v2.setCell ⟨X, 19, none⟩ (.slice A1 x.bytes.l.length c1)).setCell ⟨X, 9, none⟩ (.slice A2 x.ents.l.length c2)) := ((Fr.refl (· = X) v2).set1 19 _).set1 9 _
   refine ⟨A1, c1, A2, c2, (xb.set_ 19 _).set_ 9 _, (y1.fr Qb (fun h => h)).fr hm (fun e => hXY e.symm), ((o1.nw q2).from_ Q0.size).fr hm (fun k hk e => ?_), (o2.from_ Qa.size).fr hm (fun k hk e => ?_), (Q1.tr Qb).new hm (fun b hb => by omega), Nat.le_trans Qb.size hm.size⟩
   ·have := o1.base k hk
    have := Q0.size
    omega
   ·have := o2.base k hk
    have := Qa.size
    omega
 case rest =>
  obtain ⟨A1, c1, A2, c2, x2, y2, ob, oe, Q2, hsz2⟩ := hcut
  obtain ⟨W3, hW3⟩ : ∃ W, W = wc := ⟨_, rfl⟩
  rw [← hW3] at x2 y2 ob oe Q2 hsz2 ⊢
  clear hW3 l19 l9 Q0
  have c9 : W3.cell? ⟨X, 9, none⟩ = some (.slice A2 x.ents.l.length c2) := by simpa using x2.cell 9
  obtain ⟨xs, hxs⟩ : ∃ xs, x.ents.l = xs := ⟨_, rfl⟩
  have hin := hx.each
  have hzz := hz.each
  have hlen := hz.ents
  simp only [hxs] at x2 oe c9 hin hzz hlen ⊢
  have HXS := Lib.hid hxs
  have HIN := Lib.hid hin
  have HZZ := Lib.hid hzz
  have hbl : ∀ k, inA A2 k → W1.heap.size ≤ k ∧ k < W3.heap.size := fun k hk => ⟨oe.base k hk, oe.own.lt k hk⟩
  have hXA : ¬ inA A2 X := fun h => by have := hbl X h; omega
  have hYA : ¬ inA A2 Y := fun h => by have := hbl Y h; omega
  have hAE : ∀ k, W3.heap.size ≤ k → ¬ inA A2 k := fun k hk h => by have := hbl k h; omega
  clear hxs hin hzz
  go_wp2_with fail
  go_loopw [16] (fun i wr => CpRel W3 xs A2 c2 i wr) (fun i _ => xs.length - (intOf i).toNat)
  case atStart => exact ⟨0, [], Nat.zero_le _, rfl, rfl, rfl, oe.own, (by intro y hy; cases hy), List.Pairwise.nil, Fr.refl _ _⟩
  case round =>
   obtain ⟨k, ys, hk, rfl, hyl, ht, ho, hys, hsr, hq⟩ := hrel
   have HT := Lib.hid ht
   have HYS := Lib.hid hys
   have HSR := Lib.hid hsr
   clear ht hys hsr
   have xr := x2.fr hq hXA
   have yr := y2.fr hq hYA
   by_cases hlt : k < xs.length
   ·have hi0 : (k : Int) < (xs.length : Int) := by omega
    obtain ⟨G, hG⟩ : ∃ G, A2 = some ⟨G, 0, none⟩ := by
     rcases ho.2 with ⟨_, h, _⟩ | ⟨g, cur, h, _⟩
     ·omega
     ·exact ⟨g, h⟩
    subst hG
    obtain ⟨e, he⟩ : ∃ e, xs[k] = e := ⟨_, rfl⟩
    have hdr : xs.drop k = e :: xs.drop (k + 1) := by rw [← he]; exact List.drop_eq_getElem_cons hlt
    rw [hdr] at ho
    have hek : e ∈ xs := by rw [← he]; exact List.getElem_mem hlt
    have ie : zau wr (fun b => b < w.heap.size ∧ F b) e := ((HIN.out e hek).mono fun j h1 h2 => ⟨h2, h1⟩).fr (Q2.on.trans hq (fun b hb => .inr (by have := hbl b hb; omega))) (fun j hj h => h)
    have ze := HZZ.out e hek
    have hyk : (ys ++ e :: xs.drop (k + 1))[k]'(by simp; omega) = e := by
     rw [List.getElem_append_right (by omega)]
     simp [hyl]
    have hlt2 : k < (ys ++ e :: xs.drop (k + 1)).length := by simp; omega
    obtain ⟨b, o, hbo, hb, hbl2, hc⟩ := Sl.ent ho.sl hlt2
    obtain ⟨rfl, rfl⟩ : G = b ∧ o = 0 := by
     injection hbo with hbo
     injection hbo with h1 h2
     exact ⟨h1, h2.symm⟩
    rw [hyk] at hc
    simp only [Nat.zero_add] at hc
    clear hyk hlt2 hbo hb hbl2
    obtain ⟨E, hE⟩ : ∃ E, E = wr.heap.size := ⟨_, rfl⟩
    obtain ⟨V0, hV0⟩ : ∃ V, V = wr.alloc (.cells zE9A 87) := ⟨_, rfl⟩
    have qv0 : Nw wr V0 := by rw [hV0]; exact (Fr.refl (fun _ => False) wr).alloc _
    have g0 : Blk V0 E 87 zE9A := by rw [hV0, hE]; exact Blk.new _ _ _
    obtain ⟨V1, hV1⟩ : ∃ V, V = V0.setCells E 0 (entL e) := ⟨_, rfl⟩
    have g1 : Blk V1 E 87 (entA e) := by rw [hV1]; exact Blk.setCells (l := zE9L) g0 0 (entL e)
    have m1 : Fr (· = E) V0 V1 := by rw [hV1]; exact (Fr.refl (· = E) _).setCells _ _
    have qv1 : Nw wr V1 := qv0.new m1 (fun b hb => by omega)
    have th1 := Blk.there (l := zE9L) g0 0 7 (by show 0 + 7 ≤ 7; omega)
    have one1 := zbo e
    have HE0 := Lib.hid hE
    have HV0 := Lib.hid hV0
    have HV1 := Lib.hid hV1
    have HEQ := Lib.hid he
    have HDR := Lib.hid hdr
    have hEG : E ≠ G := by have := hbl G ((za9 _ _).2 rfl); have := hq.size; omega
    have hEX : X ≠ E := by have := xr.lt; omega
    have hGX : X ≠ G := fun e => hXA ((za9 _ _).2 e)
    clear hE hV0 hV1 he hdr
    go_upto_region 5 with (first | (refine za5 rfl 87 _ rfl G (k * 7) rfl (entL e) _ hc Tryz.underlying87 rfl (by kernel_rfl) ?_) | (rw [← HE0.out, ← HV0.out]; refine wpList_store_mid rfl 87 _ _ rfl E 0 (entA e) rfl rfl th1 (by kernel_rfl) one1 ?_; rw [← HV1.out]))
    have hS : ∀ w1, Nw V1 w1 → w1.cell? ⟨X, 9, none⟩ = some (.slice (some ⟨G, 0, none⟩) xs.length c2) ∧ w1.cell? ⟨E, 2, none⟩ = some (.slice e.cmd.a e.cmd.l.length e.cmd.c) ∧ w1.cell? ⟨E, 3, none⟩ = some (.slice e.cfg.v.a e.cfg.v.l.length e.cfg.v.c) ∧ w1.cell? ⟨E, 4, none⟩ = some (.slice e.cfg.o.a e.cfg.o.l.length e.cfg.o.c) ∧ w1.cell? ⟨E, 5, none⟩ = some (.slice e.cfg.l.a e.cfg.l.l.length e.cfg.l.c) ∧ w1.cell? ⟨E, 6, none⟩ = some (.slice e.cfg.w.a e.cfg.w.l.length e.cfg.w.c) := fun w1 f => by
     have a := (xr.fr qv1 (fun h => h)).fr f (fun h => h)
     have b := g1.fr f (fun h => h)
     exact ⟨by simpa using a.cell 9, by simpa using b.cell 2, by simpa using b.cell 3, by simpa using b.cell 4, by simpa using b.cell 5, by simpa using b.cell 6⟩
    have hS2 : ∀ w1, (∃ w5, Nw V1 w5 ∧ Fr (· = G) w5 w1) → w1.cell? ⟨X, 9, none⟩ = some (.slice (some ⟨G, 0, none⟩) xs.length c2) ∧ w1.cell? ⟨E, 2, none⟩ = some (.slice e.cmd.a e.cmd.l.length e.cmd.c) ∧ w1.cell? ⟨E, 3, none⟩ = some (.slice e.cfg.v.a e.cfg.v.l.length e.cfg.v.c) ∧ w1.cell? ⟨E, 4, none⟩ = some (.slice e.cfg.o.a e.cfg.o.l.length e.cfg.o.c) ∧ w1.cell? ⟨E, 5, none⟩ = some (.slice e.cfg.l.a e.cfg.l.l.length e.cfg.l.c) ∧ w1.cell? ⟨E, 6, none⟩ = some (.slice e.cfg.w.a e.cfg.w.l.length e.cfg.w.c) := by
     rintro w1 ⟨w5, f, g⟩
     have a := ((xr.fr qv1 (fun h => h)).fr f (fun h => h)).fr g hGX
     have b := (g1.fr f (fun h => h)).fr g hEG
     exact ⟨by simpa using a.cell 9, by simpa using b.cell 2, by simpa using b.cell 3, by simpa using b.cell 4, by simpa using b.cell 5, by simpa using b.cell 6⟩
    have HS2 := Lib.hid hS2
    clear hS2
    have hN : ∀ w1, Nw V1 w1 → (w1.cell? ⟨G, k * 7 + 2, none⟩ = some (.slice e.cmd.a e.cmd.l.length e.cmd.c) ∧ w1.frozen? ⟨G, k * 7 + 2, none⟩ = false) ∧ (w1.cell? ⟨G, k * 7 + 3, none⟩ = some (.slice e.cfg.v.a e.cfg.v.l.length e.cfg.v.c) ∧ w1.frozen? ⟨G, k * 7 + 3, none⟩ = false) ∧ (w1.cell? ⟨G, k * 7 + 4, none⟩ = some (.slice e.cfg.o.a e.cfg.o.l.length e.cfg.o.c) ∧ w1.frozen? ⟨G, k * 7 + 4, none⟩ = false) ∧ (w1.cell? ⟨G, k * 7 + 5, none⟩ = some (.slice e.cfg.l.a e.cfg.l.l.length e.cfg.l.c) ∧ w1.frozen? ⟨G, k * 7 + 5, none⟩ = false) ∧ (w1.cell? ⟨G, k * 7 + 6, none⟩ = some (.slice e.cfg.w.a e.cfg.w.l.length e.cfg.w.c) ∧ w1.frozen? ⟨G, k * 7 + 6, none⟩ = false) := fun w1 f => by
     have b := za0.cells hc w1 ⟨⟨w1, qv1.tr f⟩, rfl⟩
     have o := ho.fr (qv1.tr f) (fun _ _ h => h)
     exact ⟨⟨b 2 _ rfl, o.frozenAt _⟩, ⟨b 3 _ rfl, o.frozenAt _⟩, ⟨b 4 _ rfl, o.frozenAt _⟩, ⟨b 5 _ rfl, o.frozenAt _⟩, ⟨b 6 _ rfl, o.frozenAt _⟩⟩
    have HN := Lib.hid hN
    clear hN
    have zc : ∀ w1, Nw V1 w1 → _ := fun w1 f => zih w1 _ e.cmd.a e.cmd.c e.cmd.l (ie.cmd.nw (qv1.tr f)).sl (by have := ze.cmd; omega)
    have zf : ∀ w1, Nw V1 w1 → _ := fun w1 f => zfQ w1 _ e.cfg (ie.cfg.nw (qv1.tr f)) ze.cfg
    have HS := Lib.hid hS
    have ZC := Lib.hid zc
    have ZF := Lib.hid zf
    have Qd : Nw V1 V1.drew := (Fr.refl (fun _ => False) V1).drew
    have hki : ((k : Int) < 0) = False := by simp
    clear hS zc zf xr yr g1 ie
    first | (go_region_held3 (fun w' => w'.cell? ⟨X, 9, none⟩ = some (.slice (some ⟨G, 0, none⟩) xs.length c2) ∧ w'.cell? ⟨E, 2, none⟩ = some (.slice e.cmd.a e.cmd.l.length e.cmd.c) ∧ w'.cell? ⟨E, 3, none⟩ = some (.slice e.cfg.v.a e.cfg.v.l.length e.cfg.v.c) ∧ w'.cell? ⟨E, 4, none⟩ = some (.slice e.cfg.o.a e.cfg.o.l.length e.cfg.o.c) ∧ w'.cell? ⟨E, 5, none⟩ = some (.slice e.cfg.l.a e.cfg.l.l.length e.cfg.l.c) ∧ w'.cell? ⟨E, 6, none⟩ = some (.slice e.cfg.w.a e.cfg.w.l.length e.cfg.w.c)) (first | (with_reducible exact HS.out _ Qd) | (with_reducible exact s4) | (with_reducible exact s5) | (refine HS2.out _ ⟨w5, Q5, ?_⟩; (repeat (first | exact Fr.refl _ _ | apply Fr.set1 | apply Fr.setCells)); done) | fail)
     ((first | (go_at_call 76; refine (ZF.out w4 Q4).mono ?_; rintro e w5 ⟨y, rfl, ey, oy, q5⟩; have Q5 := Q4.tr q5; have s5 := HS.out w5 Q5; obtain ⟨⟨nc2, nf2⟩, ⟨nc3, nf3⟩, ⟨nc4, nf4⟩, ⟨nc5, nf5⟩, nc6, nf6⟩ := HN.out w5 Q5) | (go_at_call 74; refine (ZC.out _ Qd).mono ?_; rintro e w4 ⟨A4, c4, rfl, o4, q4⟩; have Q4 := Qd.tr q4; have s4 := HS.out w4 Q4)))) | fail
    go_wp2_with fail
    go_roundw
    case rel =>
     obtain ⟨w6, hw6⟩ : ∃ w6, w6 = (w5.setCells G (k * 7 + 2) [.slice A4 e.cmd.l.length c4]).setCells G (k * 7 + 3) (cl9 y) := ⟨_, rfl⟩
     show CpRel W3 xs (some ⟨G, 0, none⟩) c2 _ ((w5.setCells G (k * 7 + 2) [.slice A4 e.cmd.l.length c4]).setCells G (k * 7 + 3) (cl9 y))
     rw [← hw6]
     have ho5 := ho.fr (qv1.tr Q5) (fun _ _ h => h)
     have ho6 := (ho5.storeL (k * 7 + 2) [.slice A4 e.cmd.l.length c4]).storeL (k * 7 + 3) (cl9 y)
     rw [← hw6] at ho6
     have hfg : Fr (· = G) w5 w6 := by rw [hw6]; exact ((Fr.refl (· = G) w5).setCells _ _).setCells _ _
     have hput := zkv ys e ⟨e.term, e.kind, ⟨A4, c4, e.cmd.l⟩, y⟩ (xs.drop (k + 1)) _ rfl rfl rfl
     rw [hyl] at hput
     have hput2 : putL (putL (zal (ys ++ e :: xs.drop (k + 1))) (k * 7 + 2) [.slice A4 e.cmd.l.length c4]) (k * 7 + 3) (cl9 y) = zal ((ys ++ [⟨e.term, e.kind, ⟨A4, c4, e.cmd.l⟩, y⟩]) ++ xs.drop (k + 1)) := hput
     rw [hput2] at ho6
     have hGW : ∀ j, W3.heap.size ≤ j → ¬ j = G := fun j hj h => hAE j hj ((za9 _ _).2 h)
     have hsz := hq.size
     have hszv := qv1.size
     have hszd := Qd.size
     have hszq := q4.size
     have own6 : zaV W3 w6 ⟨e.term, e.kind, ⟨A4, c4, e.cmd.l⟩, y⟩ := zaV.fr (w := w5) ⟨(HIN.out e hek).kind, (o4.nw q5).from_ (Nat.le_trans hsz (Nat.le_trans hszv hszd)), oy.from_ (Nat.le_trans hsz (Nat.le_trans hszv (Nat.le_trans hszd hszq)))⟩ hfg hGW
     have new6 : zaV wr w6 ⟨e.term, e.kind, ⟨A4, c4, e.cmd.l⟩, y⟩ := zaV.fr (w := w5) ⟨(HIN.out e hek).kind, (o4.nw q5).from_ (Nat.le_trans hszv hszd), oy.from_ (Nat.le_trans hszv (Nat.le_trans hszd hszq))⟩ hfg (fun j hj => hGW j (Nat.le_trans hsz hj))
     refine ⟨k + 1, ys ++ [⟨e.term, e.kind, ⟨A4, c4, e.cmd.l⟩, y⟩], by omega, by go_num, by simp [hyl], ?_, ho6, fun u hu => ?_, ?_, ?_⟩
     ·rw [List.take_succ_eq_append_getElem hlt, List.map_append, List.map_append, HT.out, HEQ.out, List.map_singleton, List.map_singleton]
      show _ ++ [(⟨e.term, e.kind, e.cmd.l, y.x⟩ : Ent)] = _
      rw [ey]
     ·rcases List.mem_append.1 hu with hu | hu
      ·exact ((HYS.out u hu).nw (qv1.tr Q5)).fr hfg hGW
      ·rw [List.mem_singleton.1 hu]; exact own6
     ·refine List.pairwise_append.2 ⟨HSR.out, List.pairwise_singleton _ _, fun a ha b hb i j hi hj => ?_⟩
      rw [List.mem_singleton.1 hb] at hj
      have h1 := ((HYS.out a ha).has i hi).2
      have h2 := (new6.has j hj).1
      omega
     ·exact (hq.tr (Nw.on (qv1.tr Q5))).trans hfg (fun b hb => .inl ((za9 _ _).2 hb))
    case measure => simp [intOf]; omega
   ·obtain rfl : xs.length = k := by omega
    have cb : ∀ p u, ((cl9 x.base.cfg) : List Value)[p]? = some u → wr.cell? ⟨X, 12 + p, none⟩ = some u := Blk.cells_in xr 12 4
    have ib := (hx.cfg.mono (F' := fun j => j < w.heap.size ∧ F j) fun j h1 h2 => ⟨h2, h1⟩).fr (Q2.on.trans hq (fun b hb => .inr (by have := hbl b hb; omega))) (fun j hj h => h)
    have hcf := zfQ wr _ x.base.cfg ib hz.cfg
    go_wp2_with (refine za5 rfl 45 _ rfl X 12 rfl (cl9 x.base.cfg) _ cb Tryz.underlying45 rfl (by kernel_rfl) ?_)
    refine hcf.mono ?_
    rintro e w4 ⟨y, rfl, ey, oy, q4⟩
    have x4 := xr.fr q4 (fun h => h)
    have y4 := yr.fr q4 (fun h => h)
    have th := Blk.there (l := [U8V x.kind, I64 x.group, I64 x.src, I64 x.dst, I64 x.term, I64 x.index, I64 x.logt, I64 x.commit, .bool x.ok, .slice A2 xs.length c2, I64 x.base.index, I64 x.base.term, .slice x.base.cfg.v.a x.base.cfg.v.l.length x.base.cfg.v.c, .slice x.base.cfg.o.a x.base.cfg.o.l.length x.base.cfg.o.c, .slice x.base.cfg.l.a x.base.cfg.l.l.length x.base.cfg.l.c, .slice x.base.cfg.w.a x.base.cfg.w.l.length x.base.cfg.w.c, I64 x.size, I64 x.at_, I64 x.tag, .slice A1 x.bytes.l.length c1]) x4 12 4 (by show 12 + 4 ≤ 20; omega)
    have one := zdi y
    obtain ⟨w5, hw5⟩ : ∃ W, W = w4.setCells X 12 (cl9 y) := ⟨_, rfl⟩
    have m5 : Fr (· = X) w4 w5 := by rw [hw5]; exact (Fr.refl (· = X) _).setCells _ _
    have x5 : Blk w5 X 50 #[U8V x.kind, I64 x.group, I64 x.src, I64 x.dst, I64 x.term, I64 x.index, I64 x.logt, I64 x.commit, .bool x.ok, .slice A2 xs.length c2, I64 x.base.index, I64 x.base.term, .slice y.v.a y.v.l.length y.v.c, .slice y.o.a y.o.l.length y.o.c, .slice y.l.a y.l.l.length y.l.c, .slice y.w.a y.w.l.length y.w.c, I64 x.size, I64 x.at_, I64 x.tag, .slice A1 x.bytes.l.length c1] := by rw [hw5]; exact Blk.setCells (l := [U8V x.kind, I64 x.group, I64 x.src, I64 x.dst, I64 x.term, I64 x.index, I64 x.logt, I64 x.commit, .bool x.ok, .slice A2 xs.length c2, I64 x.base.index, I64 x.base.term, .slice x.base.cfg.v.a x.base.cfg.v.l.length x.base.cfg.v.c, .slice x.base.cfg.o.a x.base.cfg.o.l.length x.base.cfg.o.c, .slice x.base.cfg.l.a x.base.cfg.l.l.length x.base.cfg.l.c, .slice x.base.cfg.w.a x.base.cfg.w.l.length x.base.cfg.w.c, I64 x.size, I64 x.at_, I64 x.tag, .slice A1 x.bytes.l.length c1]) x4 12 (cl9 y)
    have y5 := y4.fr m5 (fun h => hXY h.symm)
    have lz := Blk.cells_at (l := [U8V x.kind, I64 x.group, I64 x.src, I64 x.dst, I64 x.term, I64 x.index, I64 x.logt, I64 x.commit, .bool x.ok, .slice A2 xs.length c2, I64 x.base.index, I64 x.base.term, .slice y.v.a y.v.l.length y.v.c, .slice y.o.a y.o.l.length y.o.c, .slice y.l.a y.l.l.length y.l.c, .slice y.w.a y.w.l.length y.w.c, I64 x.size, I64 x.at_, I64 x.tag, .slice A1 x.bytes.l.length c1]) x5 0
    have thz := Blk.there (l := zL9L) y5 0 20 (by show 0 + 20 ≤ 20; omega)
    obtain ⟨w6, hw6⟩ : ∃ W, W = w5.setCells Y 0 [U8V x.kind, I64 x.group, I64 x.src, I64 x.dst, I64 x.term, I64 x.index, I64 x.logt, I64 x.commit, .bool x.ok, .slice A2 xs.length c2, I64 x.base.index, I64 x.base.term, .slice y.v.a y.v.l.length y.v.c, .slice y.o.a y.o.l.length y.o.c, .slice y.l.a y.l.l.length y.l.c, .slice y.w.a y.w.l.length y.w.c, I64 x.size, I64 x.at_, I64 x.tag, .slice A1 x.bytes.l.length c1] := ⟨_, rfl⟩
    have m6 : Fr (· = Y) w5 w6 := by rw [hw6]; exact (Fr.refl (· = Y) _).setCells _ _
    have y6 : Blk w6 Y 50 #[U8V x.kind, I64 x.group, I64 x.src, I64 x.dst, I64 x.term, I64 x.index, I64 x.logt, I64 x.commit, .bool x.ok, .slice A2 xs.length c2, I64 x.base.index, I64 x.base.term, .slice y.v.a y.v.l.length y.v.c, .slice y.o.a y.o.l.length y.o.c, .slice y.l.a y.l.l.length y.l.c, .slice y.w.a y.w.l.length y.w.c, I64 x.size, I64 x.at_, I64 x.tag, .slice A1 x.bytes.l.length c1] := by rw [hw6]; exact Blk.setCells (l := zL9L) y5 0 [U8V x.kind, I64 x.group, I64 x.src, I64 x.dst, I64 x.term, I64 x.index, I64 x.logt, I64 x.commit, .bool x.ok, .slice A2 xs.length c2, I64 x.base.index, I64 x.base.term, .slice y.v.a y.v.l.length y.v.c, .slice y.o.a y.o.l.length y.o.c, .slice y.l.a y.l.l.length y.l.c, .slice y.w.a y.w.l.length y.w.c, I64 x.size, I64 x.at_, I64 x.tag, .slice A1 x.bytes.l.length c1]
    have one6 : (#[U8V x.kind, I64 x.group, I64 x.src, I64 x.dst, I64 x.term, I64 x.index, I64 x.logt, I64 x.commit, .bool x.ok, .slice A2 xs.length c2, I64 x.base.index, I64 x.base.term, .slice y.v.a y.v.l.length y.v.c, .slice y.o.a y.o.l.length y.o.c, .slice y.l.a y.l.l.length y.l.c, .slice y.w.a y.w.l.length y.w.c, I64 x.size, I64 x.at_, I64 x.tag, .slice A1 x.bytes.l.length c1] : Array Value).all (·.oneCell') = true := by rw [List.all_toArray]; simp only [List.all_cons, List.all_nil]; rfl
    have el : ys.length = xs.length := hyl
    have hT := HT.out
    rw [List.take_of_length_le (Nat.le_refl _)] at hT
    have ho2 := ho
    rw [List.drop_of_length_le (Nat.le_refl _), List.append_nil] at ho2
    have res : ∃ y' : LetM, (.agg #[U8V x.kind, I64 x.group, I64 x.src, I64 x.dst, I64 x.term, I64 x.index, I64 x.logt, I64 x.commit, .bool x.ok, .slice A2 xs.length c2, I64 x.base.index, I64 x.base.term, .slice y.v.a y.v.l.length y.v.c, .slice y.o.a y.o.l.length y.o.c, .slice y.l.a y.l.l.length y.l.c, .slice y.w.a y.w.l.length y.w.c, I64 x.size, I64 x.at_, I64 x.tag, .slice A1 x.bytes.l.length c1] : Value) = .agg (letA y') ∧ y'.x = x.x ∧ zeI w w6 y' ∧ Nw w w6 := by
     have hAA : ∀ j, inA A1 j → ¬ inA A2 j := fun j h1 h2 => by
      rcases oe.own.2 with ⟨h, _⟩ | ⟨g, cur, h, hb, _⟩
      ·exact zaH _ (show inA none j from h ▸ h2)
      ·have e1 : j = g := (za9 _ _).1 (show inA (some ⟨g, 0, none⟩) j from h ▸ h2)
       subst e1
       exact ob.own.ne_ hb (by decide) h1
     have hm : Fr (fun j => j = X ∨ j = Y) w4 w6 := (m5.mono fun b hb => .inl (.inl hb)).tr (m6.mono fun b hb => .inl (.inr hb))
     have hn1 : ∀ j, W1.heap.size ≤ j → ¬ (j = X ∨ j = Y) := fun j hj h => by rcases h with h | h <;> omega
     have hs1 := Q1.size
     have hs3 := hq.size
     refine ⟨{ x with ents := ⟨A2, c2, ys⟩, base := ⟨x.base.index, x.base.term, y⟩, bytes := ⟨A1, c1, x.bytes.l⟩ }, by rw [← el], ?_, ⟨hx.kind, ?_, ⟨?_, fun j hj => Nat.le_trans hs1 (oe.base j hj)⟩, fun e he => ?_, ?_, HSR.out, fun e he i j hi hj => ?_, fun e he i j hi hj => ?_⟩, ?_⟩
     ·show (⟨x.kind, x.group, x.src, x.dst, x.term, x.index, x.logt, x.commit, x.ok, ys.map EntM.x, ⟨x.base.index, x.base.term, y.x⟩, x.size, x.at_, x.tag, x.bytes.l⟩ : LetF) = _
      rw [hT, ey, ← HXS.out]
     ·exact (((ob.fr hq hAA).nw q4).fr hm (fun j hj => hn1 j (ob.base j hj))).from_ hs1
     ·show Own w6 87 7 A2 ys.length c2 (zal ys)
      rw [el]
      exact (ho2.fr q4 (fun _ _ h => h)).fr hm (fun j hj => hn1 j (oe.base j hj))
     ·exact (((HYS.out e he).nw q4).fr hm (fun j hj => hn1 j (Nat.le_trans hsz2 hj))).from_ (Nat.le_trans hs1 hsz2)
     ·exact (oy.fr hm (fun j hj => hn1 j (Nat.le_trans hsz2 (Nat.le_trans hs3 hj)))).from_ (Nat.le_trans hs1 (Nat.le_trans hsz2 hs3))
     ·have h1 := ob.own.lt i hi
      have h2 := ((HYS.out e he).has j hj).1
      omega
     ·have h1 := ((HYS.out e he).has i hi).2
      have h2 := (oy.has j hj).1
      omega
     ·exact (((Q2.new hq (fun b hb => Nat.le_trans hs1 (hbl b hb).1)).tr q4).new hm (fun b hb => by rcases hb with rfl | rfl <;> omega))
    have HR := Lib.hid res
    have HW5 := Lib.hid hw5
    have HW6 := Lib.hid hw6
    clear hw5 hw6 res hT HT HYS HSR ho ho2
    go_wp2_with (first | (refine wpList_store_mid rfl 45 _ _ rfl X 12 (cfgA y) rfl rfl th (by kernel_rfl) one ?_; rw [← HW5.out]) | (refine za5 rfl 50 _ rfl X 0 rfl [U8V x.kind, I64 x.group, I64 x.src, I64 x.dst, I64 x.term, I64 x.index, I64 x.logt, I64 x.commit, .bool x.ok, .slice A2 xs.length c2, I64 x.base.index, I64 x.base.term, .slice y.v.a y.v.l.length y.v.c, .slice y.o.a y.o.l.length y.o.c, .slice y.l.a y.l.l.length y.l.c, .slice y.w.a y.w.l.length y.w.c, I64 x.size, I64 x.at_, I64 x.tag, .slice A1 x.bytes.l.length c1] _ lz Tryz.underlying50 rfl (by kernel_rfl) ?_) | (refine wpList_store_mid rfl 50 _ _ rfl Y 0 #[U8V x.kind, I64 x.group, I64 x.src, I64 x.dst, I64 x.term, I64 x.index, I64 x.logt, I64 x.commit, .bool x.ok, .slice A2 xs.length c2, I64 x.base.index, I64 x.base.term, .slice y.v.a y.v.l.length y.v.c, .slice y.o.a y.o.l.length y.o.c, .slice y.l.a y.l.l.length y.l.c, .slice y.w.a y.w.l.length y.w.c, I64 x.size, I64 x.at_, I64 x.tag, .slice A1 x.bytes.l.length c1] rfl rfl thz (by kernel_rfl) one6 ?_; rw [← HW6.out]))
    refine bodyPost_ret (v := .agg #[U8V x.kind, I64 x.group, I64 x.src, I64 x.dst, I64 x.term, I64 x.index, I64 x.logt, I64 x.commit, .bool x.ok, .slice A2 xs.length c2, I64 x.base.index, I64 x.base.term, .slice y.v.a y.v.l.length y.v.c, .slice y.o.a y.o.l.length y.o.c, .slice y.l.a y.l.l.length y.l.c, .slice y.w.a y.w.l.length y.w.c, I64 x.size, I64 x.at_, I64 x.tag, .slice A1 x.bytes.l.length c1]) ?_ rfl ?_
    ·exact results_cell_row rfl _ _ Y 50 _ (0, 0) _ rfl y6 Tryz.underlying50 rfl (by kernel_rfl)
    obtain ⟨y', e1, e2, e3, e4⟩ := HR.out
    exact ⟨y', by rw [e1], e2, e3, e4⟩
open Go Go.RowKit
section
variable {w w' wr wo wx w1 : World} {E : TypeId} {z m : Nat} {A : Nat → Option Addr} {N cp : Nat → Nat} {f : Nat → List Value}
def zb4 (w : World) (E : TypeId) (z m : Nat) (A : Nat → Option Addr) (N cp : Nat → Nat) (f : Nat → List Value) : Prop := ∀ k, k < m → OwnC w E z (A k) (N k) (cp k) (f k)
def FarC (m : Nat) (A : Nat → Option Addr) (cp : Nat → Nat) : Prop := ∀ i j, i < m → j < m → i ≠ j → ∀ b, inA (hom (A i) (cp i)) b → ¬ inA (hom (A j) (cp j)) b
def InC (m : Nat) (A : Nat → Option Addr) (cp : Nat → Nat) (b : Nat) : Prop := ∃ k, k < m ∧ inA (hom (A k) (cp k)) b
theorem zb4.fr {S : Nat → Prop} (h : zb4 w E z m A N cp f) (hf : Fr S w w') (hn : ∀ k, k < m → ∀ b, inA (hom (A k) (cp k)) b → ¬ S b) : zb4 w' E z m A N cp f := fun k hk => (h k hk).fr hf (hn k hk)
theorem zb4.nw (h : zb4 w E z m A N cp f) (hf : Nw w w') : zb4 w' E z m A N cp f := h.fr hf (fun _ _ _ _ h => h)
theorem zb4.congr {g : Nat → List Value} (h : zb4 w E z m A N cp f) (hg : ∀ k, k < m → f k = g k) : zb4 w E z m A N cp g := fun k hk => by rw [← hg k hk]; exact h k hk
theorem zb4.inlt (h : zb4 w E z m A N cp f) {b : Nat} (hb : InC m A cp b) : b < w.heap.size := by
 obtain ⟨k, hk, hb⟩ := hb
 exact (h k hk).lt b hb
def updL (f : Nat → List Value) (k : Nat) (g : List Value) : Nat → List Value := fun j => if j = k then g else f j
theorem zhq (f : Nat → List Value) (k : Nat) (g : List Value) : updL f k g k = g := by simp [updL]
theorem zj6 (f : Nat → List Value) {k j : Nat} (g : List Value) (h : j ≠ k) : updL f k g j = f j := by simp [updL, h]
theorem zb4.step (h : zb4 w E z m A N cp f) (hfar : FarC m A cp) {k : Nat} (hk : k < m) {g : List Value} (hf : Fr (inA (hom (A k) (cp k))) w w') (ho : OwnC w' E z (A k) (N k) (cp k) g) : zb4 w' E z m A N cp (updL f k g) := by
 intro j hj
 by_cases e : j = k
 ·subst e; rw [zhq]; exact ho
 ·rw [zj6 f g e]
  exact (h j hj).fr hf (fun b hb hb2 => hfar j k hj hk e b hb hb2)
theorem zb4.same (h : zb4 w E z m A N cp f) (hfar : FarC m A cp) {k : Nat} (hk : k < m) (hf : Fr (inA (hom (A k) (cp k))) w w') (ho : OwnC w' E z (A k) (N k) (cp k) (f k)) : zb4 w' E z m A N cp f := by
 intro j hj
 by_cases e : j = k
 ·subst e; exact ho
 ·exact (h j hj).fr hf (fun b hb hb2 => hfar j k hj hk e b hb hb2)
theorem InC.fr {k : Nat} (hk : k < m) (hf : Fr (inA (hom (A k) (cp k))) w w') : Fr (InC m A cp) w w' := hf.mono fun _ hb => .inl ⟨k, hk, hb⟩
abbrev hdr (A : Nat → Option Addr) (N cp : Nat → Nat) (k : Nat) : Value := .slice (A k) (N k) (cp k)
def hdrs (m : Nat) (A : Nat → Option Addr) (N cp : Nat → Nat) : List Value := (List.range m).map (hdr A N cp)
theorem zlm : (hdrs m A N cp).length = m := by simp [hdrs]
theorem zms {k : Nat} (h : k < m) : (hdrs m A N cp)[k]? = some (hdr A N cp k) := by simp [hdrs, h]
theorem Sl.hdr {F : Nat → Prop} {B : Option Addr} (h : Sl w F B (hdrs m A N cp)) {k : Nat} (hk : k < m) : ∃ b o, B = some ⟨b, o, none⟩ ∧ F b ∧ w.cell? ⟨b, o + k, none⟩ = some (.slice (A k) (N k) (cp k)) := by
 obtain ⟨b, o, hB, hF, _, hc⟩ := h.at_ (by intro e; have := congrArg List.length e; rw [zlm] at this; simp at this; omega)
 exact ⟨b, o, hB, hF, hc k _ (zms hk)⟩
variable {mk : Nat → Nat → List Value}
def Fl1 (mk : Nat → Nat → List Value) (E : TypeId) (z : Nat) (w : World) (m : Nat) (A : Nat → Option Addr) (N cp : Nat → Nat) (k : Nat) (wr : World) : Prop :=
 ∃ f, zb4 wr E z m A N cp f ∧ (∀ j, j < k → f j = mksL mk j (N j)) ∧ Fr (InC m A cp) w wr
def Fl1o (mk : Nat → Nat → List Value) (E : TypeId) (z : Nat) (w : World) (m : Nat) (A : Nat → Option Addr) (N cp : Nat → Nat) (i : Value) (wr : World) : Prop := ∃ k : Nat, k ≤ m ∧ i = .int .i64 k ∧ Fl1 mk E z w m A N cp k wr
def Fl1i (mk : Nat → Nat → List Value) (E : TypeId) (z : Nat) (w : World) (m : Nat) (A : Nat → Option Addr) (N cp : Nat → Nat) (k : Nat) (i : Value) (wr : World) : Prop :=
 ∃ (j : Nat) (f : Nat → List Value), j ≤ N k ∧ i = .int .i64 j ∧ zb4 wr E z m A N cp f ∧ (∀ j, j < k → f j = mksL mk j (N j)) ∧ (f k).take (j * z) = mksL mk k j ∧ Fr (InC m A cp) w wr
theorem zhw (hmk : ∀ k i, (mk k i).length = z) {l : List Value} {k j n : Nat} (hl : l.length = n * z) (hj : j < n) (ht : l.take (j * z) = mksL mk k j) : (putL l (j * z) (mk k j)).take ((j + 1) * z) = mksL mk k (j + 1) := by
 have h1 := Nat.mul_le_mul_right z (show j + 1 ≤ n from hj)
 rw [Nat.succ_mul] at h1 ⊢
 rw [zmu _ _ _ (by rw [hmk]; omega), ht, zcU, ← List.append_assoc]
 rw [List.take_left' (by rw [List.length_append, zaZ hmk, hmk])]
theorem Fl1i.next (hmk : ∀ k i, (mk k i).length = z) {k j : Nat} (hfar : FarC m A cp) (hk : k < m) (hj : j < N k) (hr : zb4 wr E z m A N cp f) (hb : ∀ j, j < k → f j = mksL mk j (N j)) (ht : (f k).take (j * z) = mksL mk k j) (hf : Fr (InC m A cp) w wr)
  {g : Nat} (hA : A k = some ⟨g, 0, none⟩) (hw : w' = wr.setCells g (j * z) (mk k j)) : Fl1i mk E z w m A N cp k (.int .i64 ((j : Int) + 1)) w' := by
 subst hw
 have ho := hr k hk
 have hcp : 0 < cp k := by have := ho.cap_le.1; omega
 have hh : hom (A k) (cp k) = some ⟨g, 0, none⟩ := by rw [zeE _ hcp, hA]
 obtain ⟨g', e1, _, o1⟩ := ho.at_ hcp
 rw [hA] at e1
 injection e1 with e1
 injection e1 with e1
 subst e1
 have hs := o1.storeL (j * z) (mk k j)
 have hf1 : Fr (inA (hom (A k) (cp k))) wr (wr.setCells g (j * z) (mk k j)) := by
  rw [hh]
  exact (Fr.setCells (Fr.refl (· = g) wr) _ _).mono fun b hb => .inl ((za9 _ _).2 hb)
 rw [← hA] at hs
 refine ⟨j + 1, updL f k (putL (f k) (j * z) (mk k j)), hj, by go_num, hr.step hfar hk hf1 hs.c, fun i hi => ?_, ?_, hf.tr (InC.fr hk hf1)⟩
 ·rw [zj6 _ _ (by omega)]; exact hb i hi
 ·rw [zhq]
  exact zhw hmk ho.len hj ht
def FlG (mk : Nat → Nat → List Value) (E EE : TypeId) (z : Nat) (w : World) (m : Nat) (A : Nat → Option Addr) (N cp : Nat → Nat) (gg : Nat) (con : Nat → List Value) (k : Nat) (wr : World) : Prop :=
 ∃ (cells : List Value) (GA : Nat → Option Addr) (Gc : Nat → Nat), Own wr EE 1 (some ⟨gg, 0, none⟩) m m cells ∧ (∀ j, j < k → cells[j]? = some (.slice (GA j) (N j + 64) (Gc j))) ∧
  (∀ j, j < k → OwnC wr E z (GA j) (N j + 64) (Gc j) (con j)) ∧ (∀ j, j < k → ∀ b, inA (GA j) b → inA (hom (A j) (cp j)) b ∨ w.heap.size ≤ b) ∧ zb4 wr E z m A N cp (fun j => mksL mk j (N j)) ∧ Fr (InC m A cp) w wr
def FlGo (mk : Nat → Nat → List Value) (E EE : TypeId) (z : Nat) (w : World) (m : Nat) (A : Nat → Option Addr) (N cp : Nat → Nat) (gg : Nat) (con : Nat → List Value) (i : Value) (wr : World) : Prop := ∃ k : Nat, k ≤ m ∧ i = .int .i64 k ∧ FlG mk E EE z w m A N cp gg con k wr
def FlX (mk : Nat → Nat → List Value) (E : TypeId) (z : Nat) (A : Nat → Option Addr) (N cp : Nat → Nat) (k : Nat) (wo : World) (con : List Value) (X : Option Addr) (n c : Nat) (wx : World) : Prop :=
 Fr (inA (hom (A k) (cp k))) wo wx ∧ OwnC wx E z X n c con ∧ ((X = A k ∧ c = cp k) ∨ ∀ b, inA X b → wo.heap.size ≤ b) ∧ OwnC wx E z (A k) (N k) (cp k) (mksL mk k (N k))
def FlXi (mk : Nat → Nat → List Value) (E : TypeId) (z : Nat) (A : Nat → Option Addr) (N cp : Nat → Nat) (k : Nat) (wo : World) (v i : Value) (wx : World) : Prop :=
 ∃ (j : Nat) (X : Option Addr) (c : Nat), j ≤ 64 ∧ i = .int .i64 j ∧ v = .slice X (N k + j) c ∧ FlX mk E z A N cp k wo (mksL mk k (N k + j)) X (N k + j) c wx
variable {EE : TypeId} {gg k : Nat} {con : Nat → List Value}
theorem FlG.next (hEE : EE ≠ E) (hn64 : 0 < 64) (h : FlG mk E EE z w m A N cp gg con k wo) (hgg : w.heap.size ≤ gg) (hr : zb4 w E z m A N cp f) (hfar : FarC m A cp) (hk : k < m) {X : Option Addr} {c : Nat} (hx : FlX mk E z A N cp k wo (con k) X (N k + 64) c wx) (hw : w' = wx.setCell ⟨gg, k, none⟩ (.slice X (N k + 64) c)) : FlG mk E EE z w m A N cp gg con (k + 1) w' := by
 subst hw
 obtain ⟨cells, GA, Gc, ho, hc, hG, hb, hrow, hf⟩ := h
 obtain ⟨hf2, hX, hXb, hk2⟩ := hx
 have hcX : 0 < c := by have := hX.cap_le.1; omega
 obtain ⟨gX, hXA, hhX, oX⟩ := hX.at_ hcX
 have hok := hrow k hk
 obtain ⟨cur0, hbg, _⟩ := ho.blk
 have hgk : ¬ inA (hom (A k) (cp k)) gg := fun h => hok.offB hbg hEE h
 have ho2 := ho.fr hf2 (fun j hj => by rw [(za9 _ _).1 hj]; exact hgk)
 obtain ⟨cur2, hbg2, _⟩ := ho2.blk
 have hst := ho2.store k (.slice X (N k + 64) c)
 have hs1 : Fr (· = gg) wx (wx.setCell ⟨gg, k, none⟩ (.slice X (N k + 64) c)) := (Fr.refl (· = gg) wx).setCell (p := ⟨gg, k, none⟩) (.inl rfl) _
 have keep : ∀ {A' : Option Addr} {n' c' : Nat} {cs' : List Value}, OwnC wx E z A' n' c' cs' → OwnC (wx.setCell ⟨gg, k, none⟩ (.slice X (N k + 64) c)) E z A' n' c' cs' := fun h1 =>
  h1.fr hs1 (fun b hb hb2 => by rw [hb2] at hb; exact h1.offB hbg2 hEE hb)
 refine ⟨_, fun j => if j = k then X else GA j, fun j => if j = k then c else Gc j, hst, fun j hj => ?_, fun j hj => ?_, fun j hj b hbb => ?_, ?_, (hf.tr (InC.fr hk hf2)).setCell (p := ⟨gg, k, none⟩) (.inr hgg) _⟩
 ·by_cases e : j = k
  ·subst e
   simp only [if_true]
   have hcl := ho2.1
   rw [List.getElem?_set_self (by omega)]
  ·simp only [if_neg e]
   rw [List.getElem?_set_ne (fun h => e h.symm)]
   exact hc j (by omega)
 ·by_cases e : j = k
  ·subst e
   simp only [if_true]
   exact keep hX
  ·simp only [if_neg e]
   refine keep ((hG j (by omega)).fr hf2 (fun b hb1 hb2 => ?_))
   rcases hb j (by omega) b (zdr hb1).1 with h | h
   ·exact hfar j k (by omega) hk e b h hb2
   ·have := hr.inlt ⟨k, hk, hb2⟩; omega
 ·by_cases e : j = k
  ·subst e
   simp only [if_true] at hbb
   rcases hXb with ⟨rfl, hcc⟩ | h
   ·refine .inl ?_
    rw [← hcc, zeE _ hcX]
    exact hbb
   ·exact .inr (Nat.le_trans hf.size (h b hbb))
  ·simp only [if_neg e] at hbb
   exact hb j (by omega) b hbb
 ·have h1 := hrow.same hfar hk hf2 hk2
  exact fun j hj => keep (h1 j hj)
theorem FlG.rows (h : FlG mk E EE z w m A N cp gg con k wo) : zb4 wo E z m A N cp (fun j => mksL mk j (N j)) := by obtain ⟨_, _, _, _, _, _, _, h, _⟩ := h; exact h
theorem FlG.fr (h : FlG mk E EE z w m A N cp gg con k wo) : Fr (InC m A cp) w wo := by obtain ⟨_, _, _, _, _, _, _, _, h⟩ := h; exact h
theorem FlG.own (h : FlG mk E EE z w m A N cp gg con k wo) : ∃ cells, Own wo EE 1 (some ⟨gg, 0, none⟩) m m cells := by obtain ⟨c, _, _, h, _⟩ := h; exact ⟨c, h⟩
theorem FlX.next {con x : List Value} {X A' : Option Addr} {n c cap' q : Nat} (h : FlX mk E z A N cp k wo con X n c wx) (q1 : Nw wx w1) (hq : 0 < q) (hcn : con.length = n * z) (hNn : N k ≤ n) (hpre : con.take (N k * z) = mksL mk k (N k)) (hlt : ∀ b, inA (hom (A k) (cp k)) b → b < wo.heap.size)
  (hap : AppC w1 E z X n c q con x A' cap' w') : FlX mk E z A N cp k wo (con ++ x) A' (n + q) cap' w' := by
 obtain ⟨hf, ho, hXb, hk2⟩ := h
 obtain ⟨ho2, hcase⟩ := hap
 have hsz := hf.size
 refine ⟨?_, ho2.c, ?_, ?_⟩
 ·rcases hcase with ⟨_, rfl, _, hf2⟩ | ⟨_, _, hf2⟩
  ·rcases hXb with ⟨rfl, rfl⟩ | h
   ·exact (hf.tr (Nw.on q1)).tr hf2
   ·exact (hf.tr (Nw.on q1)).trans hf2 (fun b hb => .inr (h b (zdr hb).1))
  ·exact (hf.tr (Nw.on q1)).tr (Nw.on hf2)
 ·rcases hcase with ⟨_, rfl, rfl, _⟩ | ⟨_, rfl, _⟩
  ·exact hXb
  ·refine .inr fun b hb => ?_
   rw [(za9 _ _).1 hb]
   exact Nat.le_trans hsz q1.size
 ·have hk3 := hk2.nw q1
  rcases hcase with ⟨hcp, rfl, rfl, hf2⟩ | ⟨_, rfl, hf2⟩
  ·rcases hXb with ⟨rfl, rfl⟩ | h
   ·have hne : A k ≠ none := by
     intro he
     rcases ho2.2 with ⟨_, h, _⟩ | ⟨g, cur, h, _⟩
     ·omega
     ·rw [he] at h; cases h
    have h3 := ho2.pre (k := N k) (by omega) hne
    have h4 := Nat.mul_le_mul_right z hNn
    rw [List.take_append_of_le_length (by omega), hpre] at h3
    exact h3.c
   ·exact hk3.fr hf2 (fun b hb hb2 => by have := h b (zdr hb2).1; have := hlt b hb; omega)
  ·exact hk3.nw hf2
end
theorem Own.cellEx {w : World} {E : TypeId} {g n c k z : Nat} {cs : List Value} (h : Own w E z (some ⟨g, 0, none⟩) n c cs) (hk : k < n * z) : ∃ u, w.cell? ⟨g, k, none⟩ = some u := by
 have hl := h.1
 exact ⟨_, (h.cellAt hk).trans (List.getElem?_eq_getElem (by omega))⟩
def zcQ (mk : Nat → Nat → List Value) (E : TypeId) (z : Nat) (kk : Nat) (g : Nat) (wy : World) (i : Value) (wx : World) : Prop :=
 ∃ (j : Nat) (cs : List Value), j ≤ 64 ∧ i = .int .i64 j ∧ Own wx E z (some ⟨g, 0, none⟩) 64 64 cs ∧ cs.take (j * z) = mksL mk kk j ∧ Fr (· = g) wy wx
theorem zcQ.next {mk : Nat → Nat → List Value} {E : TypeId} {z kk g j : Nat} {wy wx w' : World} {cs : List Value} (hmk : ∀ k i, (mk k i).length = z) (ho : Own wx E z (some ⟨g, 0, none⟩) 64 64 cs) (ht : cs.take (j * z) = mksL mk kk j) (hf : Fr (· = g) wy wx) (hj : j < 64) (hw : w' = wx.setCells g (j * z) (mk kk j)) : zcQ mk E z kk g wy (.int .i64 ((j : Int) + 1)) w' := by
 subst hw
 exact ⟨j + 1, _, hj, by go_num, ho.storeL (j * z) (mk kk j), zhw hmk ho.1 hj ht, hf.setCells _ _⟩
def conA (mk : Nat → Nat → List Value) (N : Nat → Nat) (j : Nat) : List Value := mksL mk j (N j + 64)
def conB (mk : Nat → Nat → List Value) (m : Nat) (N : Nat → Nat) (j : Nat) : List Value := mksL mk j (N j) ++ mksL mk (j + m) 64
theorem zmq {mk : Nat → Nat → List Value} {z : Nat} (hmk : ∀ k i, (mk k i).length = z) (m : Nat) (N : Nat → Nat) (j i p : Nat) (h : i < N j) (hp : p < z) : (conB mk m N j)[i * z + p]? = (mk j i)[p]? := by
 unfold conB
 have h2 := Nat.mul_le_mul_right z (show i + 1 ≤ N j from h)
 rw [Nat.succ_mul] at h2
 rw [List.getElem?_append_left (by rw [zaZ hmk]; omega)]
 exact zgV hmk _ _ _ _ h hp
theorem FlG.cells {mk : Nat → Nat → List Value} {E EE : TypeId} {z : Nat} {w wr : World} {m : Nat} {A : Nat → Option Addr} {N cp : Nat → Nat} {gg : Nat} {con : Nat → List Value} (h : FlG mk E EE z w m A N cp gg con m wr) {k : Nat} (hk : k < m) :
  ∃ (X : Option Addr) (c : Nat), wr.cell? ⟨gg, k, none⟩ = some (.slice X (N k + 64) c) ∧ ∀ i x, (con k)[i]? = some x → ∃ g, X = some ⟨g, 0, none⟩ ∧ wr.cell? ⟨g, i, none⟩ = some x := by
 obtain ⟨cells, GA, Gc, ho, hc, hG, hb, hrow, hf⟩ := h
 refine ⟨GA k, Gc k, (ho.cellAt (k := k) (by omega)).trans (hc k hk), fun i x hx => ?_⟩
 have h1 := hG k hk
 obtain ⟨g, hg, _, o1⟩ := h1.at_ (by have := h1.cap_le.1; omega)
 refine ⟨g, hg, ?_⟩
 have hi : i < (con k).length := by
  rcases Nat.lt_or_ge i (con k).length with h | h
  ·exact h
  ·rw [List.getElem?_eq_none h] at hx; cases hx
 rw [o1.cellAt (by have := h1.len; omega)]
 exact hx
theorem zb4.cell {mk : Nat → Nat → List Value} {E : TypeId} {z : Nat} {w : World} {m : Nat} {A : Nat → Option Addr} {N cp : Nat → Nat} (hmk : ∀ k i, (mk k i).length = z) (h : zb4 w E z m A N cp (fun j => mksL mk j (N j))) {k i : Nat} (hk : k < m) (hi : i < N k) :
  ∃ g, A k = some ⟨g, 0, none⟩ ∧ ∀ p u, (mk k i)[p]? = some u → w.cell? ⟨g, i * z + p, none⟩ = some u := by
 have h1 := h k hk
 obtain ⟨g, hg, _, o1⟩ := h1.at_ (by have := h1.cap_le.1; omega)
 refine ⟨g, hg, fun p u hu => ?_⟩
 have hp : p < z := by
  rcases Nat.lt_or_ge p (mk k i).length with h | h
  ·rwa [hmk] at h
  ·rw [List.getElem?_eq_none h] at hu; cases hu
 have h2 := Nat.mul_le_mul_right z (show i + 1 ≤ N k from hi)
 rw [Nat.succ_mul] at h2
 rw [o1.cellAt (by omega), zgV hmk _ _ _ _ hi hp]
 exact hu
def zbt (w : World) (n : Nat) (i : Value) (wx : World) : Prop := ∃ k : Nat, k ≤ n ∧ i = .int .i64 k ∧ Nw w wx
end Go.Proofs.YtippdjaakcgeoaaGreat
