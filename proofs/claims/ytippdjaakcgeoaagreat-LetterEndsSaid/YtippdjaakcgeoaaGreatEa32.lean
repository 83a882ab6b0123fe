/- Lemmas of the walks: LdA. (Laid together by shake.py.) -/
import Derived.Test.YtippdjaakcgeoaaGreatEa27
import Derived.Test.YtippdjaakcgeoaaGreatEa29
import Derived.Test.YtippdjaakcgeoaaGreatEa31
set_option linter.unusedVariables false
set_option linter.unusedSimpArgs false
set_option maxRecDepth 100000
set_option maxHeartbeats 16000000
namespace Go.Proofs.YtippdjaakcgeoaaGreat
open Go Go.RowKit
theorem zea {w w' : World} {g : Nat} (xs : List LetM) (hg : g = w.heap.size) (hw : w' = w.alloc (.cells (xs.map letL).flatten.toArray 50)) : Nw w w' ∧ Sl w' (· = g) (some ⟨g, 0, none⟩) (zai xs) := by
 subst hg
 subst hw
 refine ⟨(Fr.refl (fun _ => False) w).alloc _, ?_⟩
 have h := (Blk.new w 50 (xs.map letL).flatten.toArray).sl 0 (xs.map letL).flatten.length
 rw [List.drop_zero, List.take_of_length_le (by simp)] at h
 exact h
def zk0 (r : Option (List UInt8)) : Int := if r.isSome then 0 else 2
theorem zet.one {w w' : World} {r : Option (List UInt8)} {e : Ending} (h : zet w r e w') : ∃ s : Ls UInt8, e = .returned (.tuple #[.slice s.a s.l.length s.c, .int .i64 (zk0 r)]) ∧ s.l = r.getD [] ∧ LsHd w' (fun k => w.heap.size ≤ k) 5 1 zaw s ∧ Nw w w' := by
 cases r with
 | none => exact ⟨lsZ, h.1, rfl, ⟨Own.nil _ _ _, fun k hk => (zaH k hk).elim⟩, h.2⟩
 | some b =>
  obtain ⟨A, c, h1, h2, h3, h4⟩ := h
  exact ⟨⟨A, c, b⟩, h1, rfl, ⟨h2, h4⟩, h3⟩
theorem zjc (l : List LetM) (hl : l.length ≤ 3000) : ((zbU (l.map LetM.x)).getD []).length ≤ 13000000000 := by
 unfold zbU
 split
 ·rename_i h
  show (zcw (l.map LetM.x)).length ≤ _
  rw [← zfu l l.length (Nat.le_refl _), List.length_append]
  have h1 := zg6 l l.length (fun x hx => (zcJ _).1 h _ (List.mem_map.2 ⟨x, hx, rfl⟩))
  have h2 := zaR l.length
  omega
 ·simp
theorem zbv.szs {w : World} {F : Nat → Prop} {li l : List LetM} (h : li.map LetM.x = l.map LetM.x) (hz : ∀ e ∈ l, za8 e) : ∀ e ∈ li, za8 e := fun e he => by
 have h1 : e.x ∈ l.map LetM.x := by rw [← h]; exact List.mem_map.2 ⟨e, he, rfl⟩
 obtain ⟨y, hy, h2⟩ := List.mem_map.1 h1
 exact za8.of_eq h2.symm (hz y hy)
theorem zlb {w15 : World} {F : Nat → Prop} {cc dd : LetM} (c15 : zbg w15 F cc) (d15 : zbg w15 F dd) (hf : ∀ k, zdu cc k → ¬ zdu dd k) (szc : za8 cc) (szd : za8 dd) (fc : cc.ents.l.length ≤ 3000) (fd : dd.ents.l.length ≤ 3000) (hF : ∀ k, F k → k < w15.heap.size) :
  ∀ g w16 w17, g = w15.heap.size → w16 = w15.alloc (.cells ([cc, dd].map letL).flatten.toArray 50) → w17 = w16.alloc (.cells #[.slice (some ⟨g, 0, none⟩) 2 2] 28) →
   Calls Tryz.prog 16 #[.slice (some ⟨w16.heap.size, 0, none⟩) 1 1] w17 fun e w' => e = .returned (.bool true) ∧ Fr (fun k => F k ∨ w15.heap.size ≤ k) w15 w' := fun g w16 w17 hg h16 h17 => by
 have q16 : Nw w15 w16 := by rw [h16]; exact (Fr.refl (fun _ => False) _).alloc _
 have q17 : Nw w16 w17 := by rw [h17]; exact (Fr.refl (fun _ => False) _).alloc _
 have hz16 : w16.heap.size = w15.heap.size + 1 := by rw [h16]; simp
 have hz17 : w17.heap.size = w16.heap.size + 1 := by rw [h17]; simp
 have own : Own w16 50 20 (some ⟨g, 0, none⟩) 2 2 (zai [cc, dd]) := by
  have h1 := Own.new w15 50 20 2 2 ([cc, dd].map letL).flatten.toArray (Nat.le_refl _) (by decide) (by simp)
  rw [← h16, ← hg] at h1
  have e : List.take (2 * 20) ([cc, dd].map letL).flatten.toArray.toList = zai [cc, dd] := by
   rw [List.take_of_length_le (by simp)]
   rfl
  rwa [e] at h1
 have ls : LsHd w17 (fun k => F k ∨ k = g) 50 20 zai ⟨some ⟨g, 0, none⟩, 2, [cc, dd]⟩ := ⟨own.fr q17 (fun _ _ h => h), fun k hk => .inr ((za9 _ _).1 hk)⟩
 have c17 := ((c15.mono (G := fun k => F k ∨ k = g) fun k hk _ => .inl hk).nw q16).nw q17
 have d17 := ((d15.mono (G := fun k => F k ∨ k = g) fun k hk _ => .inl hk).nw q16).nw q17
 have e0 : [(⟨some ⟨g, 0, none⟩, 2, [cc, dd]⟩ : Ls LetM)].flatMap (·.l) = [cc, dd] := by simp
 have hH : zas w17 (fun k => F k ∨ k = g) ([(⟨some ⟨g, 0, none⟩, 2, [cc, dd]⟩ : Ls LetM)].flatMap (·.l)) := by
  rw [e0]
  exact zas.two c17 d17 hf
 have hfew := ziE (l := [cc, dd]) ⟨by simp, fun z hz => by
  simp only [List.mem_cons, List.not_mem_nil, or_false] at hz
  rcases hz with rfl | rfl
  ·exact fc
  ·exact fd⟩
 have e1 : [(⟨some ⟨g, 0, none⟩, 2, [cc, dd]⟩ : Ls LetM)].flatMap (fun s => s.l.flatMap zaz) = [cc, dd].flatMap zaz := by simp
 have e2 : [(⟨some ⟨g, 0, none⟩, 2, [cc, dd]⟩ : Ls LetM)].flatMap (fun s => s.l.flatMap zaB) = [cc, dd].flatMap zaB := by simp
 have e3 : [(⟨some ⟨g, 0, none⟩, 2, [cc, dd]⟩ : Ls LetM)].flatMap (fun s => s.l.map LetM.ents) = [cc, dd].map LetM.ents := by simp
 obtain ⟨m1, m2, m3⟩ := hfew
 have hs : Sl w17 (· = w16.heap.size) (some ⟨w16.heap.size, 0, none⟩) (lvs [(⟨some ⟨g, 0, none⟩, 2, [cc, dd]⟩ : Ls LetM)]) := by
  have := zaI w16 28 [.slice (some ⟨g, 0, none⟩) 2 2] _ rfl
  rw [h17]
  simpa [lvs, Ls.v] using this
 have hF17 : ∀ k, F k ∨ k = g → k < w17.heap.size := fun k hk => by
  rcases hk with hk | hk
  ·have := hF k hk; omega
  ·omega
 have hz : ∀ z ∈ [(⟨some ⟨g, 0, none⟩, 2, [cc, dd]⟩ : Ls LetM)].flatMap (·.l), za8 z := fun z hz => by
  rw [e0] at hz
  simp only [List.mem_cons, List.not_mem_nil, or_false] at hz
  rcases hz with rfl | rfl
  ·exact szc
  ·exact szd
 have hc := ze7 w17 (· = w16.heap.size) (fun k => F k ∨ k = g) (some ⟨w16.heap.size, 0, none⟩) 1 [⟨some ⟨g, 0, none⟩, 2, [cc, dd]⟩] hs (Held.one ls) hH hF17 (by simp) (by rw [e1]; omega) (by rw [e2]; omega) (by rw [e3]; omega) hz 1 rfl
 refine hc.mono ?_
 rintro e w' ⟨h1, h2⟩
 exact ⟨h1, (Nw.on (q16.tr q17)).trans h2 (fun k hk => hk.elim (fun h => .inl (.inl h)) (fun h => .inl (.inr (by omega))))⟩
theorem zjm {w15 : World} {F : Nat → Prop} {cc dd : LetM} (c15 : zbg w15 F cc) (d15 : zbg w15 F dd) (hf : ∀ k, zdu cc k → ¬ zdu dd k) (szc : za8 cc) (szd : za8 dd) (fc : cc.ents.l.length ≤ 3000) (fd : dd.ents.l.length ≤ 3000) (hF : ∀ k, F k → k < w15.heap.size) :
   Calls Tryz.prog 16 #[.slice (some ⟨w15.heap.size + 1, 0, none⟩) 1 1] ((w15.alloc (.cells #[U8V cc.kind, I64 cc.group, I64 cc.src, I64 cc.dst, I64 cc.term, I64 cc.index, I64 cc.logt, I64 cc.commit, .bool cc.ok, .slice cc.ents.a cc.ents.l.length cc.ents.c, I64 cc.base.index, I64 cc.base.term, .slice cc.base.cfg.v.a cc.base.cfg.v.l.length cc.base.cfg.v.c, .slice cc.base.cfg.o.a cc.base.cfg.o.l.length cc.base.cfg.o.c, .slice cc.base.cfg.l.a cc.base.cfg.l.l.length cc.base.cfg.l.c, .slice cc.base.cfg.w.a cc.base.cfg.w.l.length cc.base.cfg.w.c, I64 cc.size, I64 cc.at_, I64 cc.tag, .slice cc.bytes.a cc.bytes.l.length cc.bytes.c, U8V dd.kind, I64 dd.group, I64 dd.src, I64 dd.dst, I64 dd.term, I64 dd.index, I64 dd.logt, I64 dd.commit, .bool dd.ok, .slice dd.ents.a dd.ents.l.length dd.ents.c, I64 dd.base.index, I64 dd.base.term, .slice dd.base.cfg.v.a dd.base.cfg.v.l.length dd.base.cfg.v.c, .slice dd.base.cfg.o.a dd.base.cfg.o.l.length dd.base.cfg.o.c, .slice dd.base.cfg.l.a dd.base.cfg.l.l.length dd.base.cfg.l.c, .slice dd.base.cfg.w.a dd.base.cfg.w.l.length dd.base.cfg.w.c, I64 dd.size, I64 dd.at_, I64 dd.tag, .slice dd.bytes.a dd.bytes.l.length dd.bytes.c] 50)).alloc (.cells #[.slice (some ⟨w15.heap.size, 0, none⟩) 2 2] 28)) fun e w' => e = .returned (.bool true) ∧ Fr (fun k => F k ∨ w15.heap.size ≤ k) w15 w' := by
 have e : ([cc, dd].map letL).flatten.toArray = #[U8V cc.kind, I64 cc.group, I64 cc.src, I64 cc.dst, I64 cc.term, I64 cc.index, I64 cc.logt, I64 cc.commit, .bool cc.ok, .slice cc.ents.a cc.ents.l.length cc.ents.c, I64 cc.base.index, I64 cc.base.term, .slice cc.base.cfg.v.a cc.base.cfg.v.l.length cc.base.cfg.v.c, .slice cc.base.cfg.o.a cc.base.cfg.o.l.length cc.base.cfg.o.c, .slice cc.base.cfg.l.a cc.base.cfg.l.l.length cc.base.cfg.l.c, .slice cc.base.cfg.w.a cc.base.cfg.w.l.length cc.base.cfg.w.c, I64 cc.size, I64 cc.at_, I64 cc.tag, .slice cc.bytes.a cc.bytes.l.length cc.bytes.c, U8V dd.kind, I64 dd.group, I64 dd.src, I64 dd.dst, I64 dd.term, I64 dd.index, I64 dd.logt, I64 dd.commit, .bool dd.ok, .slice dd.ents.a dd.ents.l.length dd.ents.c, I64 dd.base.index, I64 dd.base.term, .slice dd.base.cfg.v.a dd.base.cfg.v.l.length dd.base.cfg.v.c, .slice dd.base.cfg.o.a dd.base.cfg.o.l.length dd.base.cfg.o.c, .slice dd.base.cfg.l.a dd.base.cfg.l.l.length dd.base.cfg.l.c, .slice dd.base.cfg.w.a dd.base.cfg.w.l.length dd.base.cfg.w.c, I64 dd.size, I64 dd.at_, I64 dd.tag, .slice dd.bytes.a dd.bytes.l.length dd.bytes.c] := rfl
 have h := zlb c15 d15 hf szc szd fc fd hF _ _ _ rfl rfl rfl
 have hz : (w15.alloc (.cells ([cc, dd].map letL).flatten.toArray 50)).heap.size = w15.heap.size + 1 := by simp
 rw [hz, e] at h
 exact h
theorem zgx (W : World) (F : Nat → Prop) (A : Option Addr) (c : Nat) (l : List LetM) (x y : LetM) (h : Sl W F A (zai l)) (he : ∀ e ∈ l, za3 W F e) (hbd : ∀ e ∈ l, zd1 e) (hln : l.length ≤ 1125899906842624)
  (hx : za3 W F x) (hy : za3 W F y) (bx : zd1 x) (by_ : zd1 y) (hF : ∀ k, F k → k < W.heap.size) :
  Calls Tryz.prog 5 #[.slice A l.length c, .agg (letA x), .agg (letA y)] W fun e w' => e = .returned (.bool true) ∧ Nw W w' := by
 obtain ⟨G1, hG1⟩ : ∃ X, X = W.heap.size := ⟨_, rfl⟩
 obtain ⟨G2, hG2⟩ : ∃ Y, Y = W.heap.size + 1 := ⟨_, rfl⟩
 obtain ⟨W0, hW0⟩ : ∃ V, V = W.alloc (.cells (letA x) 50) := ⟨_, rfl⟩
 have p0 : Nw W W0 := by rw [hW0]; exact (Fr.refl (fun _ => False) _).alloc _
 have x0 : Blk W0 G1 50 (letA x) := by rw [hW0, hG1]; exact Blk.new _ _ _
 have hz0 : W0.heap.size = G2 := by rw [hW0, hG2]; simp
 obtain ⟨W1, hW1⟩ : ∃ V, V = W0.alloc (.cells (letA y) 50) := ⟨_, rfl⟩
 have p1 : Nw W0 W1 := by rw [hW1]; exact (Fr.refl (fun _ => False) _).alloc _
 have y1 : Blk W1 G2 50 (letA y) := by rw [hW1, ← hz0]; exact Blk.new _ _ _
 have x1 := x0.fr p1 (fun h => h)
 have Q1 : Nw W W1 := p0.tr p1
 have cg1 := zhB W1 F A c l (h.fr Q1 (fun _ _ h => h)) (fun e hm => (he e hm).nw Q1) hbd hln
 obtain ⟨n, hn⟩ : ∃ n, l.length = n := ⟨_, rfl⟩
 have HG1 := Lib.hid hG1
 have HG2 := Lib.hid hG2
 have HW0 := Lib.hid hW0
 have HW1 := Lib.hid hW1
 have HN := Lib.hid hn
 rw [hn] at cg1 ⊢
 clear hG1 hG2 hW0 hW1 hz0 x0 hn p0 p1
 go_enter Tryz.func5, Tryz.ntmps5
 go_upto_region 1 with (fail)
 rw [← HG2.out, ← HG1.out, ← HW0.out, ← HW1.out]
 go_wp2_with fail
 refine cg1.mono ?_
 rintro e w2 ⟨gr, rfl, hgr, q2⟩
 have Q2 := Q1.tr q2
 have x2 := x1.fr q2 (fun h => h)
 have y2 := y1.fr q2 (fun h => h)
 clear cg1 x1 y1 q2
 cases gr with
 | true =>
  go_wp2_with fail
  refine (zdp _).mono ?_
  rintro e w3 ⟨rfl, q3⟩
  go_wp2_with fail
  go_ret
  exact ⟨rfl, Q2.tr q3⟩
 | false =>
  obtain ⟨hl3, hlS⟩ := hgr rfl
  have szl : ∀ e ∈ l, za8 e := fun e hm => (hlS e hm).sz (by omega)
  have hn3 : n ≤ 3000 := by have := HN.out; omega
  have SZL := Lib.hid szl
  clear hgr hlS szl hl3 hbd hln
  have lG1 := Blk.cells_at (l := letL x) x2 0
  have lG2 := Blk.cells_at (l := letL y) y2 0
  have cg2 : ∀ w3 g3, Nw w2 w3 → Sl w3 (· = g3) (some ⟨g3, 0, none⟩) (zai [x, y]) → Calls Tryz.prog 27 #[.slice (some ⟨g3, 0, none⟩) 2 2] w3 fun e w' => ∃ b, e = .returned (.bool b) ∧ (b = false → [x, y].length ≤ 3000 ∧ ∀ e ∈ [x, y], LetS 3000 e) ∧ Nw w3 w' := fun w3 g3 q3 s3 =>
   zhB w3 (fun j => F j ∨ j = g3) (some ⟨g3, 0, none⟩) 2 [x, y] (s3.mono fun j h _ => .inr h) (fun e hm => by
    simp only [List.mem_cons, List.not_mem_nil, or_false] at hm
    rcases hm with rfl | rfl
    ·exact ((hx.nw Q2).nw q3).mono fun j h _ => .inl h
    ·exact ((hy.nw Q2).nw q3).mono fun j h _ => .inl h) (fun e hm => by
    simp only [List.mem_cons, List.not_mem_nil, or_false] at hm
    rcases hm with rfl | rfl
    ·exact bx
    ·exact by_) (by simp)
  have CG2 := Lib.hid cg2
  clear cg2
  go_upto_if 25 with (first | (refine zaO (by kernel_rfl) 50 _ rfl G1 0 rfl (letL x) _ lG1 Tryz.underlying50 rfl (by kernel_rfl) ?_) | (refine zaO (by kernel_rfl) 50 _ rfl G2 0 rfl (letL y) _ lG2 Tryz.underlying50 rfl (by kernel_rfl) ?_) | (refine zl6 (by kernel_rfl) 28 2 _ 20 [letL x, letL y] (.agg zL9A) rfl Tryz.underlying28 (by kernel_rfl) rfl (by decide) (by decide) (by simp) (by decide) rfl ?_; intro g3 w3 hg3 hw3; obtain ⟨q3, s3⟩ := zea [x, y] hg3 hw3; clear hg3 hw3) | (go_at_call 27; refine (CG2.out w3 g3 q3 s3).mono ?_; rintro e w4 ⟨gr2, rfl, hgr2, q4⟩))
  have Q4 := (Q2.tr q3).tr q4
  have x4 := (x2.fr q3 (fun h => h)).fr q4 (fun h => h)
  have y4 := (y2.fr q3 (fun h => h)).fr q4 (fun h => h)
  have hq4 := (Q2.tr q3).size
  clear lG1 lG2 s3 x2 y2 q3 q4 Q2 hq4
  cases gr2 with
  | true =>
   go_wp2_with fail
   refine (zdp _).mono ?_
   rintro e w5 ⟨rfl, q5⟩
   go_wp2_with fail
   go_ret
   exact ⟨rfl, Q4.tr q5⟩
  | false =>
   obtain ⟨_, hsm⟩ := hgr2 rfl
   have szx := (hsm x (by simp)).sz (by omega)
   have szy := (hsm y (by simp)).sz (by omega)
   have fx : x.ents.l.length ≤ 3000 := (hsm x (by simp)).ents
   clear hsm hgr2
   obtain ⟨PL, hPL⟩ : ∃ P : VT → World → (Nat → Prop) → Prop, P = fun t w F => zbv w F t.2.2 ∧ t.2.2.l.map LetM.x = l.map LetM.x := ⟨_, rfl⟩
   obtain ⟨P1, hP1⟩ : ∃ P : VT → World → (Nat → Prop) → Prop, P = fun t w F => zbz w F t.1 ∧ t.1.x = x.x := ⟨_, rfl⟩
   obtain ⟨P2, hP2⟩ : ∃ P : VT → World → (Nat → Prop) → Prop, P = fun t w F => zbz w F t.1 ∧ t.1.x = y.x := ⟨_, rfl⟩
   obtain ⟨PF, hPF⟩ : ∃ P : VT → VT → Prop, P = fun _ _ => True := ⟨_, rfl⟩
   have kL : zb2 PL := by rw [hPL]; exact ⟨fun h f hn => ⟨h.1.fr f hn, h.2⟩, fun h hF => ⟨h.1.mono hF, h.2⟩⟩
   have k1 : zb2 P1 := by rw [hP1]; exact ⟨fun h f hn => ⟨h.1.fr f hn, h.2⟩, fun h hF => ⟨h.1.mono hF, h.2⟩⟩
   have k2 : zb2 P2 := by rw [hP2]; exact ⟨fun h f hn => ⟨h.1.fr f hn, h.2⟩, fun h hF => ⟨h.1.mono hF, h.2⟩⟩
   have cL : ∀ w9, Nw w4 w9 → Calls Tryz.prog 29 #[.slice A n c] w9 fun e w' => ∃ t : VT, e = .returned (.slice t.2.2.a n t.2.2.c) ∧ Nw w9 w' ∧ PL t w' (fun k => w9.heap.size ≤ k) := fun w9 q => by
    have h1 := zlj w9 F A c l (h.fr (Q4.tr q) (fun _ _ h => h)) (fun e hm => (he e hm).nw (Q4.tr q)) SZL.out (by have := HN.out; omega)
    rw [HN.out] at h1
    refine h1.mono ?_
    rintro e w' ⟨A', c', ys, h2, h3, h4, h5⟩
    exact ⟨(zaP, 0, ⟨A', c', ys⟩), h2, h5, by rw [hPL]; exact ⟨h4, h3⟩⟩
   have c1 : ∀ w9, Nw w4 w9 → Calls Tryz.prog 30 #[.agg (letA x)] w9 fun e w' => ∃ t : VT, e = .returned (.agg (letA t.1)) ∧ Nw w9 w' ∧ P1 t w' (fun k => w9.heap.size ≤ k) := fun w9 q => by
    refine (zfZ w9 F x (hx.nw (Q4.tr q)) szx).mono ?_
    rintro e w' ⟨y', h2, h3, h4, h5⟩
    exact ⟨(y', 0, lsZ), h2, h5, by rw [hP1]; exact ⟨h4, h3⟩⟩
   have c2 : ∀ w9, Nw w4 w9 → Calls Tryz.prog 30 #[.agg (letA y)] w9 fun e w' => ∃ t : VT, e = .returned (.agg (letA t.1)) ∧ Nw w9 w' ∧ P2 t w' (fun k => w9.heap.size ≤ k) := fun w9 q => by
    refine (zfZ w9 F y (hy.nw (Q4.tr q)) szy).mono ?_
    rintro e w' ⟨y', h2, h3, h4, h5⟩
    exact ⟨(y', 0, lsZ), h2, h5, by rw [hP2]; exact ⟨h4, h3⟩⟩
   have hpf : ∀ a b, PF a b := fun a b => by rw [hPF]; trivial
   have EPL := Lib.hid hPL
   have EP1 := Lib.hid hP1
   have EP2 := Lib.hid hP2
   have CL := Lib.hid cL
   have C1 := Lib.hid c1
   have C2 := Lib.hid c2
   have xb : ∀ w9, Nw w4 w9 → ∀ p u, (letL x)[p]? = some u → w9.cell? ⟨G1, 0 + p, none⟩ = some u := fun w9 q => Blk.cells_at (l := letL x) (x4.fr q (fun h => h)) 0
   have yb : ∀ w9, Nw w4 w9 → ∀ p u, (letL y)[p]? = some u → w9.cell? ⟨G2, 0 + p, none⟩ = some u := fun w9 q => Blk.cells_at (l := letL y) (y4.fr q (fun h => h)) 0
   have XB := Lib.hid xb
   have YB := Lib.hid yb
   clear hPL hP1 hP2 hPF cL c1 c2 xb yb
   go_upto_region 3 with (fail)
   refine zfd 1 3 5 6 7 9 10 w4 PL P1 P2 PF (by kernel_rfl) (by kernel_rfl) (Fr.refl _ w4) ?_
   apply zak
   focus
    intro B L wz hL hD hC
    refine .inl ⟨by rfl, ?_⟩
    unfold za2
    go_simp
    exact ⟨rfl, hC.1.step (by kernel_rfl) hD, by simpa [onL] using hC.2⟩
   simp only [Act.put, sA9, sB9, sC9]
   refine zaU (fun b => .slice b.2.2.a n b.2.2.c) ?_ ?_
   focus
    intro B L wz hL hD hC
    have st := hC.2
    rw [hL] at st
    have ST := Lib.hid st
    have HS := Lib.hid hC
    have nwz := st.nw
    clear st
    refine .inl ⟨by rfl, ?_⟩
    unfold zbP
    go_simp
    refine (CL.out wz nwz).mono ?_
    rintro e w9 ⟨t, rfl, q9, hp⟩
    refine ⟨t, rfl, HS.out.1.step (by kernel_rfl) hD, ?_⟩
    have h9 := ST.out.callL (b := t) kL k1 k2 q9 hp
    simpa [onL, updT] using h9
   simp only [Act.put, sA9, sB9, sC9]
   apply zak
   focus
    intro B L wz hL hD hC
    have hlx : ∀ p u, (letL x)[p]? = some u → wz.cell? ⟨G1, 0 + p, none⟩ = some u := XB.out wz hC.2.nw
    refine .inl ⟨by rfl, ?_⟩
    exact zaC 50 _ rfl G1 0 rfl (letL x) _ hlx Tryz.underlying50 rfl (by kernel_rfl) ⟨hC.1.step (by kernel_rfl) hD, by simpa [onL] using hC.2⟩
   simp only [Act.put, sA9, sB9, sC9]
   refine zaU (fun b => .agg (letA b.1)) ?_ ?_
   focus
    intro B L wz hL hD hC
    have n5 := hC.1.no (a := 5) (b := 3) (by kernel_rfl) hL
    have n9 := hC.1.no (a := 9) (b := 3) (by kernel_rfl) hL
    have st := hC.2
    rw [hL, n5, n9] at st
    have ST := Lib.hid st
    have HS := Lib.hid hC
    have nwz := st.nw
    clear st
    refine .inl ⟨by rfl, ?_⟩
    unfold zbP
    go_simp
    refine (C1.out wz nwz).mono ?_
    rintro e w9 ⟨t, rfl, q9, hp⟩
    refine ⟨t, rfl, HS.out.1.step (by kernel_rfl) hD, ?_⟩
    have h9 := ST.out.call1 (b := t) kL k1 k2 q9 hp
    simpa [onL, updT, n5, n9] using h9
   simp only [Act.put, sA9, sB9, sC9]
   apply zak
   focus
    intro B L wz hL hD hC
    have hlx : ∀ p u, (letL y)[p]? = some u → wz.cell? ⟨G2, 0 + p, none⟩ = some u := YB.out wz hC.2.nw
    refine .inl ⟨by rfl, ?_⟩
    exact zaC 50 _ rfl G2 0 rfl (letL y) _ hlx Tryz.underlying50 rfl (by kernel_rfl) ⟨hC.1.step (by kernel_rfl) hD, by simpa [onL] using hC.2⟩
   simp only [Act.put, sA9, sB9, sC9]
   refine zaU (fun b => .agg (letA b.1)) ?_ ?_
   focus
    intro B L wz hL hD hC
    have n10 := hC.1.no (a := 10) (b := 5) (by kernel_rfl) hL
    have st := hC.2
    rw [hL, n10] at st
    have ST := Lib.hid st
    have HS := Lib.hid hC
    have nwz := st.nw
    clear st
    refine .inl ⟨by rfl, ?_⟩
    unfold zbP
    go_simp
    refine (C2.out wz nwz).mono ?_
    rintro e w9 ⟨t, rfl, q9, hp⟩
    refine ⟨t, rfl, HS.out.1.step (by kernel_rfl) hD, ?_⟩
    have h9 := ST.out.call2 (b := t) kL k1 k2 q9 hp (fun _ => hpf _ _)
    simpa [onL, updT, n10] using h9
   simp only [Act.put, sA9, sB9, sC9]
   refine zaU (fun b => .pointer (some ⟨b.2.1, 0, none⟩)) ?_ ?_
   focus
    intro B L wz hL hD hC
    have n9 := hC.1.no (a := 9) (b := 6) (by kernel_rfl) hL
    have st := hC.2
    rw [hL, n9] at st
    have ST := Lib.hid st
    have HS := Lib.hid hC
    clear st
    refine .inl ⟨by rfl, ?_⟩
    unfold zbP
    go_simp
    refine ⟨(zaP, wz.heap.size, lsZ), rfl, HS.out.1.step (by kernel_rfl) hD, ?_⟩
    have h9 := ST.out.alloc1 kL k1 k2
    simp [onL, updT, n9] at h9 ⊢
    exact h9
   simp only [Act.put, sA9, sB9, sC9]
   refine zaU (fun b => .pointer (some ⟨b.2.1, 0, none⟩)) ?_ ?_
   focus
    intro B L wz hL hD hC
    have n10 := hC.1.no (a := 10) (b := 7) (by kernel_rfl) hL
    have st := hC.2
    rw [hL, n10] at st
    have ST := Lib.hid st
    have HS := Lib.hid hC
    clear st
    refine .inl ⟨by rfl, ?_⟩
    unfold zbP
    go_simp
    refine ⟨(zaP, wz.heap.size, lsZ), rfl, HS.out.1.step (by kernel_rfl) hD, ?_⟩
    have h9 := ST.out.alloc2 kL k1 k2
    simp [onL, updT, n10] at h9 ⊢
    exact h9
   simp only [Act.put, sA9, sB9, sC9]
   refine zdC (fun B => .slice (B 1).2.2.a n (B 1).2.2.c) (fun B B' h => by simp only [h 1 (by kernel_rfl)]) ?_ ?_
   focus
    intro B L wz hL hD hC
    refine .inl ⟨by rfl, ?_⟩
    unfold za2
    go_simp
    exact ⟨rfl, hC.1.step (by kernel_rfl) hD, by simpa [onL] using hC.2⟩
   simp only [Act.put, sA9, sB9, sC9]
   apply zak
   focus
    intro B L wz hL hD hC
    have st := hC.2
    rw [hL, hD 6 (by kernel_rfl), hD 3 (by kernel_rfl)] at st
    have th := st.there1
    have h9 := st.store1 kL k1 k2
    refine .inl ⟨by rfl, ?_⟩
    exact zbx 50 _ _ rfl (B 6).2.1 0 (letA (B 3).1) rfl rfl th (by kernel_rfl) (zbc _) ⟨hC.1.step (by kernel_rfl) hD, by have a1 := hD 6 (by kernel_rfl); have a2 := hD 3 (by kernel_rfl); simpa [onL, a1, a2] using h9⟩
   simp only [Act.put, sA9, sB9, sC9]
   apply zak
   focus
    intro B L wz hL hD hC
    have st := hC.2
    rw [hL, hD 7 (by kernel_rfl), hD 5 (by kernel_rfl)] at st
    have th := st.there2
    have h9 := st.store2 kL k1 k2
    refine .inl ⟨by rfl, ?_⟩
    exact zbx 50 _ _ rfl (B 7).2.1 0 (letA (B 5).1) rfl rfl th (by kernel_rfl) (zbc _) ⟨hC.1.step (by kernel_rfl) hD, by have a1 := hD 7 (by kernel_rfl); have a2 := hD 5 (by kernel_rfl); simpa [onL, a1, a2] using h9⟩
   simp only [Act.put, sA9, sB9, sC9]
   refine zcH fun B w5 hC => ?_
   have st5 := hC.2
   simp only [List.length_cons, List.length_nil, Nat.zero_add, Nat.reduceAdd, Nat.reduceLT, decide_true] at st5
   clear hC
   generalize B 1 = tL at st5 ⊢
   generalize B 3 = tA at st5 ⊢
   generalize B 5 = tB at st5 ⊢
   generalize (B 6).2.1 = n8 at st5 ⊢
   generalize (B 7).2.1 = n9 at st5 ⊢
   have iL := st5.pl rfl
   have iA := st5.p1 rfl
   have iB := st5.p2 rfl
   rw [EPL.out] at iL
   rw [EP1.out] at iA
   rw [EP2.out] at iB
   obtain ⟨_, _, ⟨Ai, ci, li⟩⟩ := tL
   obtain ⟨a, _, _⟩ := tA
   obtain ⟨b, _, _⟩ := tB
   obtain ⟨hn8, b8⟩ := st5.x1 rfl
   obtain ⟨hn9, b9⟩ := st5.x2 rfl
   simp only [if_true] at b8 b9 iL iA iB
   obtain ⟨lL, eL⟩ := iL
   obtain ⟨aL, eA⟩ := iA
   obtain ⟨bL, eB⟩ := iB
   have Q5 : Nw W w5 := Q4.tr st5.nw
   have x5 := x4.fr st5.nw (fun h => h)
   have y5 := y4.fr st5.nw (fun h => h)
   have hF5 : ∀ k, vq w4 true true n8 n9 k → w4.heap.size ≤ k := fun k hk => hk.1
   clear st5 hpf kL k1 k2 EPL EP1 EP2 CL C1 C2 XB YB x4 y4
   have hli : li.length = n := by
    have h1 := congrArg List.length eL
    rw [List.length_map, List.length_map, HN.out] at h1
    exact h1
   have szi : ∀ e ∈ li, za8 e := zbv.szs (w := w5) (F := F) eL SZL.out
   have sza : za8 a := za8.of_eq eA szx
   have szb : za8 b := za8.of_eq eB szy
   have HLI := Lib.hid hli
   have HEL := Lib.hid eL
   have HEA := Lib.hid eA
   have HEB := Lib.hid eB
   have SZI := Lib.hid szi
   clear hli eL eA eB szi
   obtain ⟨r, hr⟩ : ∃ r, zbU (l.map LetM.x) = r := ⟨_, rfl⟩
   have hrl : (r.getD []).length ≤ 13000000000 := by rw [← hr]; exact zjc l (by have := HN.out; omega)
   obtain ⟨er, her⟩ : ∃ er, zk0 r = er := ⟨_, rfl⟩
   have cP : ∀ w9, Nw w5 w9 → Calls Tryz.prog 31 #[.slice Ai n ci] w9 fun e w' => zet w9 r e w' := fun w9 q => by
    have h1 := zib w9 _ Ai ci li ((lL.nw q).in_.ls.sl) ((lL.nw q).in_.each) SZI.out (by have := HLI.out; omega)
    rw [HEL.out, hr] at h1
    simpa only [HLI.out] using h1
   have cD : ∀ w9, Nw w5 w9 → Calls Tryz.prog 32 #[.slice A n c] w9 fun e w' => zet w9 r e w' := fun w9 q => by
    have h1 := zii w9 F A c l (h.fr (Q5.tr q) (fun _ _ h => h)) (fun e hm => (he e hm).nw (Q5.tr q)) SZL.out (by have := HN.out; omega)
    rw [hr] at h1
    simpa only [HN.out] using h1
   have CP := Lib.hid cP
   have CD := Lib.hid cD
   have HER := Lib.hid her
   have HRL := Lib.hid hrl
   clear cP cD her hr hrl
   go_wp2_with fail
   refine (CP.out w5 (Fr.refl _ _)).mono ?_
   intro e w6 h6
   obtain ⟨⟨As, cs, sl⟩, rfl, es, hs, q6⟩ := h6.one
   rw [HER.out]
   have ES := Lib.hid es
   obtain ⟨ns, hns⟩ : ∃ k, sl.length = k := ⟨_, rfl⟩
   have HNS := Lib.hid hns
   simp only [hns]
   clear es h6 hns
   go_wp2_with fail
   refine (CD.out w6 q6).mono ?_
   intro e w7 h7
   obtain ⟨⟨At, ct, tl⟩, rfl, et, ht, q7⟩ := h7.one
   rw [HER.out]
   have ET := Lib.hid et
   obtain ⟨nt, hnt⟩ : ∃ k, tl.length = k := ⟨_, rfl⟩
   have HNT := Lib.hid hnt
   simp only [hnt]
   clear et h7 hnt
   go_wp2_with fail
   refine (CP.out w7 (q6.tr q7)).mono ?_
   intro e w8 h8
   obtain ⟨⟨Au, cu, ul⟩, rfl, eu, hu, q8⟩ := h8.one
   rw [HER.out]
   have EU := Lib.hid eu
   obtain ⟨nu, hnu⟩ : ∃ k, ul.length = k := ⟨_, rfl⟩
   have HNU := Lib.hid hnu
   simp only [hnu]
   clear eu h8 hnu CP CD HER
   have q68 : Nw w6 w8 := q7.tr q8
   have Q68 : Nw w5 w8 := q6.tr q68
   have aL8 := aL.nw Q68
   have b88 := b8.fr Q68 (fun h => h)
   obtain ⟨P1, hP1⟩ : ∃ P : VT → World → (Nat → Prop) → Prop, P = fun t w F => zbg w F t.1 ∧ t.1.x = x.x := ⟨_, rfl⟩
   obtain ⟨PF, hPF⟩ : ∃ P : VT → VT → Prop, P = fun t u => ∀ k, zdu t.1 k → ¬ zdu u.1 k := ⟨_, rfl⟩
   obtain ⟨PL, hPL⟩ : ∃ P : VT → World → (Nat → Prop) → Prop, P = fun t w F => True := ⟨_, rfl⟩
   have kL : zb2 PL := by rw [hPL]; exact ⟨fun h f hn => trivial, fun h hF => trivial⟩
   have k1 : zb2 P1 := by rw [hP1]; exact ⟨fun h f hn => ⟨h.1.fr f hn, h.2⟩, fun h hF => ⟨h.1.mono hF, h.2⟩⟩
   have c1 : ∀ w9, Nw w8 w9 → Calls Tryz.prog 33 #[.agg (letA a)] w9 fun e w' => ∃ t : VT, e = .returned (.agg (letA t.1)) ∧ Nw w9 w' ∧ P1 t w' (fun k => w9.heap.size ≤ k) := fun w9 q => by
    refine (zkU w9 _ a (aL8.nw q).in_ sza).mono ?_
    rintro e w' ⟨y', h2, h3, h4, h5⟩
    exact ⟨(y', 0, lsZ), h2, h5, by rw [hP1]; exact ⟨h4.hd, h3.trans HEA.out⟩⟩
   have far : ∀ (t u : VT) (w w' : World) (F' : Nat → Prop), P1 t w F' → P1 u w' (fun k => w.heap.size ≤ k) → PF t u := fun t u w w' F' h1 h2 => by
    rw [hP1] at h1 h2
    rw [hPF]
    intro k ht hu
    have a1 := (h1.1.blk ht).2
    have a2 := (h2.1.blk hu).1
    omega
   have ab : ∀ w9, Nw w8 w9 → ∀ p u, (letL a)[p]? = some u → w9.cell? ⟨n8, 0 + p, none⟩ = some u := fun w9 q => Blk.cells_at (l := letL a) (b88.fr q (fun h => h)) 0
   have EP1 := Lib.hid hP1
   have EPF := Lib.hid hPF
   have C1 := Lib.hid c1
   have AB := Lib.hid ab
   have FAR := Lib.hid far
   clear hP1 hPF hPL c1 ab far
   go_upto_region 7 with (fail)
   refine zfd 99 1 3 4 5 6 7 w8 PL P1 P1 PF (by kernel_rfl) (by kernel_rfl) (Fr.refl _ w8) ?_
   apply zak
   focus
    intro B L wz hL hD hC
    have hlx : ∀ p u, (letL a)[p]? = some u → wz.cell? ⟨n8, 0 + p, none⟩ = some u := AB.out wz hC.2.nw
    refine .inl ⟨by rfl, ?_⟩
    exact zaC 50 _ rfl n8 0 rfl (letL a) _ hlx Tryz.underlying50 rfl (by kernel_rfl) ⟨hC.1.step (by kernel_rfl) hD, by simpa [onL] using hC.2⟩
   simp only [Act.put, sA9, sB9, sC9]
   refine zaU (fun b => .agg (letA b.1)) ?_ ?_
   focus
    intro B L wz hL hD hC
    have n3 := hC.1.no (a := 3) (b := 1) (by kernel_rfl) hL
    have n6 := hC.1.no (a := 6) (b := 1) (by kernel_rfl) hL
    have st := hC.2
    rw [hL, n3, n6] at st
    have ST := Lib.hid st
    have HS := Lib.hid hC
    have nwz := st.nw
    clear st
    refine .inl ⟨by rfl, ?_⟩
    unfold zbP
    go_simp
    refine (C1.out wz nwz).mono ?_
    rintro e w9 ⟨t, rfl, q9, hp⟩
    refine ⟨t, rfl, HS.out.1.step (by kernel_rfl) hD, ?_⟩
    have h9 := ST.out.call1 (b := t) kL k1 k1 q9 hp
    simpa [onL, updT, n3, n6] using h9
   simp only [Act.put, sA9, sB9, sC9]
   apply zak
   focus
    intro B L wz hL hD hC
    have hlx : ∀ p u, (letL a)[p]? = some u → wz.cell? ⟨n8, 0 + p, none⟩ = some u := AB.out wz hC.2.nw
    refine .inl ⟨by rfl, ?_⟩
    exact zaC 50 _ rfl n8 0 rfl (letL a) _ hlx Tryz.underlying50 rfl (by kernel_rfl) ⟨hC.1.step (by kernel_rfl) hD, by simpa [onL] using hC.2⟩
   simp only [Act.put, sA9, sB9, sC9]
   refine zaU (fun b => .agg (letA b.1)) ?_ ?_
   focus
    intro B L wz hL hD hC
    have n7 := hC.1.no (a := 7) (b := 3) (by kernel_rfl) hL
    have st := hC.2
    rw [hL, n7] at st
    have ST := Lib.hid st
    have HS := Lib.hid hC
    have nwz := st.nw
    clear st
    refine .inl ⟨by rfl, ?_⟩
    unfold zbP
    go_simp
    refine (C1.out wz nwz).mono ?_
    rintro e w9 ⟨t, rfl, q9, hp⟩
    refine ⟨t, rfl, HS.out.1.step (by kernel_rfl) hD, ?_⟩
    have h9 := ST.out.call2 (b := t) kL k1 k1 q9 hp (fun hl => FAR.out _ _ _ _ _ (ST.out.p1 hl) hp)
    simpa [onL, updT, n7] using h9
   simp only [Act.put, sA9, sB9, sC9]
   refine zaU (fun b => .pointer (some ⟨b.2.1, 0, none⟩)) ?_ ?_
   focus
    intro B L wz hL hD hC
    have n6 := hC.1.no (a := 6) (b := 4) (by kernel_rfl) hL
    have st := hC.2
    rw [hL, n6] at st
    have ST := Lib.hid st
    have HS := Lib.hid hC
    clear st
    refine .inl ⟨by rfl, ?_⟩
    unfold zbP
    go_simp
    refine ⟨(zaP, wz.heap.size, lsZ), rfl, HS.out.1.step (by kernel_rfl) hD, ?_⟩
    have h9 := ST.out.alloc1 kL k1 k1
    simp [onL, updT, n6] at h9 ⊢
    exact h9
   simp only [Act.put, sA9, sB9, sC9]
   refine zaU (fun b => .pointer (some ⟨b.2.1, 0, none⟩)) ?_ ?_
   focus
    intro B L wz hL hD hC
    have n7 := hC.1.no (a := 7) (b := 5) (by kernel_rfl) hL
    have st := hC.2
    rw [hL, n7] at st
    have ST := Lib.hid st
    have HS := Lib.hid hC
    clear st
    refine .inl ⟨by rfl, ?_⟩
    unfold zbP
    go_simp
    refine ⟨(zaP, wz.heap.size, lsZ), rfl, HS.out.1.step (by kernel_rfl) hD, ?_⟩
    have h9 := ST.out.alloc2 kL k1 k1
    simp [onL, updT, n7] at h9 ⊢
    exact h9
   simp only [Act.put, sA9, sB9, sC9]
   apply zak
   focus
    intro B L wz hL hD hC
    have st := hC.2
    rw [hL, hD 4 (by kernel_rfl), hD 1 (by kernel_rfl)] at st
    have th := st.there1
    have h9 := st.store1 kL k1 k1
    refine .inl ⟨by rfl, ?_⟩
    exact zbx 50 _ _ rfl (B 4).2.1 0 (letA (B 1).1) rfl rfl th (by kernel_rfl) (zbc _) ⟨hC.1.step (by kernel_rfl) hD, by have a1 := hD 4 (by kernel_rfl); have a2 := hD 1 (by kernel_rfl); simpa [onL, a1, a2] using h9⟩
   simp only [Act.put, sA9, sB9, sC9]
   apply zak
   focus
    intro B L wz hL hD hC
    have st := hC.2
    rw [hL, hD 5 (by kernel_rfl), hD 3 (by kernel_rfl)] at st
    have th := st.there2
    have h9 := st.store2 kL k1 k1
    refine .inl ⟨by rfl, ?_⟩
    exact zbx 50 _ _ rfl (B 5).2.1 0 (letA (B 3).1) rfl rfl th (by kernel_rfl) (zbc _) ⟨hC.1.step (by kernel_rfl) hD, by have a1 := hD 5 (by kernel_rfl); have a2 := hD 3 (by kernel_rfl); simpa [onL, a1, a2] using h9⟩
   simp only [Act.put, sA9, sB9, sC9]
   refine zcH fun B w9 hC => ?_
   have st9 := hC.2
   simp only [List.length_cons, List.length_nil, Nat.zero_add, Nat.reduceAdd, Nat.reduceLT, decide_true, decide_false] at st9
   clear hC
   generalize B 1 = tC at st9 ⊢
   generalize B 3 = tD at st9 ⊢
   generalize (B 4).2.1 = n16 at st9 ⊢
   generalize (B 5).2.1 = n17 at st9 ⊢
   generalize B 99 = tZ at st9
   have iC := st9.p1 rfl
   have iD := st9.p2 rfl
   have fCD := st9.far rfl rfl
   rw [EP1.out] at iC iD
   rw [EPF.out] at fCD
   obtain ⟨cc, _, _⟩ := tC
   obtain ⟨dd, _, _⟩ := tD
   obtain ⟨hn16, b16⟩ := st9.x1 rfl
   obtain ⟨hn17, b17⟩ := st9.x2 rfl
   simp only [if_true] at b16 b17 iC iD fCD
   obtain ⟨cH, eC⟩ := iC
   obtain ⟨dH, eD⟩ := iD
   have q9 := st9.nw
   have hF9 : ∀ k, vq w8 true true n16 n17 k → w8.heap.size ≤ k := fun k hk => hk.1
   have HCD := Lib.hid fCD
   have HEC := Lib.hid eC
   have HED := Lib.hid eD
   clear st9 kL k1 C1 AB FAR EP1 EPF fCD eC eD aL8 b88
   have Q9 : Nw w5 w9 := Q68.tr q9
   have QW : Nw W w9 := Q5.tr Q9
   have szc : za8 cc := za8.of_eq HEC.out szx
   have szd : za8 dd := za8.of_eq HED.out szx
   have T9 : Blk w9 n8 50 (letA a) ∧ Blk w9 n9 50 (letA b) ∧ Blk w9 G1 50 (letA x) ∧ Blk w9 G2 50 (letA y) ∧ Blk w9 n16 50 (letA cc) ∧ Blk w9 n17 50 (letA dd) := ⟨b8.fr Q9 (fun h => h), b9.fr Q9 (fun h => h), x5.fr Q9 (fun h => h), y5.fr Q9 (fun h => h), b16, b17⟩
   have cb : ∀ (X : LetM) (g : Nat), Blk w9 g 50 (letA X) → ∀ p u, (letL X)[p]? = some u → w9.cell? ⟨g, 0 + p, none⟩ = some u := fun X g hb => Blk.cells_at (l := letL X) hb 0
   have lA := cb a n8 T9.1
   have lB := cb b n9 T9.2.1
   have lX := cb x G1 T9.2.2.1
   have lY := cb y G2 T9.2.2.2.1
   have lC := cb cc n16 T9.2.2.2.2.1
   have lD := cb dd n17 T9.2.2.2.2.2
   have TT := Lib.hid T9
   have BD := Lib.hid (⟨b8.lt, b9.lt, x5.lt, y5.lt, hn16, hn17⟩ : n8 < w5.heap.size ∧ n9 < w5.heap.size ∧ G1 < w5.heap.size ∧ G2 < w5.heap.size ∧ w8.heap.size ≤ n16 ∧ w8.heap.size ≤ n17)
   have SZS := Lib.hid (⟨q6.size, q7.size, q8.size, q9.size⟩ : w5.heap.size ≤ w6.heap.size ∧ w6.heap.size ≤ w7.heap.size ∧ w7.heap.size ≤ w8.heap.size ∧ w8.heap.size ≤ w9.heap.size)
   clear T9 b8 b9 x5 y5 b16 b17 cb
   have aT : ∀ w', Nw w9 w' → za3 w' (fun _ => True) a := fun w' q => ((aL.nw (Q9.tr q)).in_).mono fun _ _ _ => trivial
   have bT : ∀ w', Nw w9 w' → za3 w' (fun _ => True) b := fun w' q => ((bL.nw (Q9.tr q)).in_).mono fun _ _ _ => trivial
   have xT : ∀ w', Nw w9 w' → za3 w' (fun _ => True) x := fun w' q => (hx.nw (QW.tr q)).mono fun _ _ _ => trivial
   have yT : ∀ w', Nw w9 w' → za3 w' (fun _ => True) y := fun w' q => (hy.nw (QW.tr q)).mono fun _ _ _ => trivial
   have cT : ∀ w', Nw w9 w' → za3 w' (fun _ => True) cc := fun w' q => (cH.nw q).in_.mono fun _ _ _ => trivial
   obtain ⟨rt, hrt⟩ : ∃ rt, zbF (l.map LetM.x) = rt := ⟨_, rfl⟩
   obtain ⟨sm, hsm⟩ : ∃ sm, decide (x.x = y.x) = sm := ⟨_, rfl⟩
   have g1 : ∀ m : za0 w9, Calls Tryz.prog 34 #[.slice As ns cs, .slice At nt ct] m.at_ fun e w' => e = .returned (.bool true) ∧ Nw m.at_ w' := fun m => by
    have h1 := zfH m.at_ (fun _ => True) (fun _ => True) As At cs ct sl tl ((hs.own.fr ((q68.tr q9).tr m.nw) (fun _ _ h => h)).sl.mono fun _ _ _ => trivial) ((ht.own.fr ((q8.tr q9).tr m.nw) (fun _ _ h => h)).sl.mono fun _ _ _ => trivial) (by have h1 : sl = r.getD [] := ES.out; have h2 := HRL.out; rw [h1]; omega)
    have e1 : decide (sl = tl) = true := decide_eq_true (ES.out.trans ET.out.symm)
    rw [e1, HNS.out, HNT.out] at h1
    exact h1.mono fun e w' ⟨a1, a2⟩ => ⟨a1, a2.fr _⟩
   have g2 : ∀ m : za0 w9, Calls Tryz.prog 35 #[.slice Ai n ci] m.at_ fun e w' => e = .returned (.bool rt) ∧ Nw m.at_ w' := fun m => by
    have h1 := zd3 m.at_ _ Ai ci li ((lL.nw (Q9.tr m.nw)).in_.ls.sl) ((lL.nw (Q9.tr m.nw)).in_.each) SZI.out (by have := HLI.out; omega)
    rw [HEL.out, hrt] at h1
    simpa only [HLI.out] using h1
   have g3 : ∀ m : za0 w9, Calls Tryz.prog 36 #[.slice A n c] m.at_ fun e w' => e = .returned (.bool rt) ∧ Nw m.at_ w' := fun m => by
    have h1 := zmC m.at_ F A c l (h.fr (QW.tr m.nw) (fun _ _ h => h)) (fun e hm => (he e hm).nw (QW.tr m.nw)) SZL.out (by have := HN.out; omega)
    rw [hrt] at h1
    simpa only [HN.out] using h1
   have g4 : ∀ m : za0 w9, Calls Tryz.prog 37 #[.agg (letA a), .agg (letA b)] m.at_ fun e w' => e = .returned (.bool sm) ∧ Nw m.at_ w' := fun m => by
    have h1 := zhi m.at_ _ _ a b (aT _ m.nw) (bT _ m.nw) sza
    rwa [HEA.out, HEB.out, hsm] at h1
   have g5 : ∀ m : za0 w9, Calls Tryz.prog 38 #[.agg (letA x), .agg (letA y)] m.at_ fun e w' => e = .returned (.bool sm) ∧ Nw m.at_ w' := fun m => by
    have h1 := zdh m.at_ _ _ x y (xT _ m.nw) (yT _ m.nw) szx
    rwa [hsm] at h1
   have g6 : ∀ m : za0 w9, Calls Tryz.prog 37 #[.agg (letA a), .agg (letA cc)] m.at_ fun e w' => e = .returned (.bool true) ∧ Nw m.at_ w' := fun m => by
    have h1 := zhi m.at_ _ _ a cc (aT _ m.nw) (cT _ m.nw) sza
    rwa [HEA.out, HEC.out, decide_eq_true rfl] at h1
   have g7 : ∀ m : za0 w9, Calls Tryz.prog 38 #[.agg (letA cc), .agg (letA x)] m.at_ fun e w' => e = .returned (.bool true) ∧ Nw m.at_ w' := fun m => by
    have h1 := zdh m.at_ _ _ cc x (cT _ m.nw) (xT _ m.nw) szc
    rwa [HEC.out, decide_eq_true rfl] at h1
   have C1 := Lib.hid g1
   have C2 := Lib.hid g2
   have C3 := Lib.hid g3
   have C4 := Lib.hid g4
   have C5 := Lib.hid g5
   have C6 := Lib.hid g6
   have C7 := Lib.hid g7
   have LA := Lib.hid (za0.cells lA)
   have LB := Lib.hid (za0.cells lB)
   have LX := Lib.hid (za0.cells lX)
   have LY := Lib.hid (za0.cells lY)
   have LC := Lib.hid (za0.cells lC)
   clear g1 g2 g3 g4 g5 g6 g7 hrt hsm lA lB lX lY lC lD
   have ert : (rt != rt) = false := by cases rt <;> rfl
   have esm : (sm != sm) = false := by cases sm <;> rfl
   go_wp2_with fail
   refine zae (by kernel_rfl) (by kernel_rfl) ?_
   iterate 17 (go_big_quiet_step ((first | (go_at_call 34; exact za0.call (C1.out _)) | (go_at_call 35; exact za0.call (C2.out _)) | (go_at_call 36; exact za0.call (C3.out _)))))
   refine zaa (by kernel_rfl) 50 _ rfl n8 0 rfl _ _ LA.out Tryz.underlying50 rfl (by kernel_rfl) ?_
   simp only [Act.put, sA9, sC9, sB9]
   refine zaa (by kernel_rfl) 50 _ rfl n9 0 rfl _ _ LB.out Tryz.underlying50 rfl (by kernel_rfl) ?_
   simp only [Act.put, sA9, sC9, sB9]
   iterate 1 (go_big_quiet_step ((go_at_call 37; exact za0.call (C4.out _))))
   refine zaa (by kernel_rfl) 50 _ rfl G1 0 rfl _ _ LX.out Tryz.underlying50 rfl (by kernel_rfl) ?_
   simp only [Act.put, sA9, sC9, sB9]
   refine zaa (by kernel_rfl) 50 _ rfl G2 0 rfl _ _ LY.out Tryz.underlying50 rfl (by kernel_rfl) ?_
   simp only [Act.put, sA9, sC9, sB9]
   iterate 4 (go_big_quiet_step ((go_at_call 38; exact za0.call (C5.out _))))
   refine zaa (by kernel_rfl) 50 _ rfl n8 0 rfl _ _ LA.out Tryz.underlying50 rfl (by kernel_rfl) ?_
   simp only [Act.put, sA9, sC9, sB9]
   refine zaa (by kernel_rfl) 50 _ rfl n16 0 rfl _ _ LC.out Tryz.underlying50 rfl (by kernel_rfl) ?_
   simp only [Act.put, sA9, sC9, sB9]
   iterate 4 (go_big_quiet_step ((go_at_call 37; exact za0.call (C6.out _))))
   refine zaa (by kernel_rfl) 50 _ rfl n16 0 rfl _ _ LC.out Tryz.underlying50 rfl (by kernel_rfl) ?_
   simp only [Act.put, sA9, sC9, sB9]
   refine zaa (by kernel_rfl) 50 _ rfl G1 0 rfl _ _ LX.out Tryz.underlying50 rfl (by kernel_rfl) ?_
   simp only [Act.put, sA9, sC9, sB9]
   repeat (go_big_quiet_step ((go_at_call 38; exact za0.call (C7.out _))))
   refine zaj fun w10 q10 => ?_
   clear C1 C2 C3 C4 C5 C6 C7 LA LB LX LY LC
   have qB : Nw w5 w10 := Q9.tr q10
   have qW : Nw W w10 := QW.tr q10
   have kl := zkX w10 _ F ⟨Ai, ci, li⟩ (lL.nw qB) A c l (h.fr qW (fun _ _ h => h)) (fun e hm => (he e hm).nw qW) HEL.out SZI.out (by have := HLI.out; show li.length ≤ _; omega)
   simp only [Ls.v, HLI.out, HN.out] at kl
   have KL := Lib.hid kl
   clear kl
   go_wp2_with fail
   refine KL.out.mono ?_
   rintro e w11 ⟨rfl, q11⟩
   clear KL
   have qN : Nw w9 w11 := q10.tr q11
   have TN := (⟨TT.out.1.fr qN (fun h => h), TT.out.2.1.fr qN (fun h => h), TT.out.2.2.1.fr qN (fun h => h), TT.out.2.2.2.1.fr qN (fun h => h), TT.out.2.2.2.2.1.fr qN (fun h => h), TT.out.2.2.2.2.2.fr qN (fun h => h)⟩ : Blk w11 n8 50 (letA a) ∧ Blk w11 n9 50 (letA b) ∧ Blk w11 G1 50 (letA x) ∧ Blk w11 G2 50 (letA y) ∧ Blk w11 n16 50 (letA cc) ∧ Blk w11 n17 50 (letA dd))
   have lA := Blk.cells_at (l := letL a) TN.1 0
   have lB := Blk.cells_at (l := letL b) TN.2.1 0
   have lX := Blk.cells_at (l := letL x) TN.2.2.1 0
   have lY := Blk.cells_at (l := letL y) TN.2.2.2.1 0
   have lC := Blk.cells_at (l := letL cc) TN.2.2.2.2.1 0
   have lD := Blk.cells_at (l := letL dd) TN.2.2.2.2.2 0
   have T11 := Lib.hid TN
   clear TN
   have qB := Q9.tr qN
   have qW := QW.tr qN
   have ka := zf4 w11 _ F a x (aL.nw qB) (hx.nw qW) HEA.out sza
   have KA := Lib.hid ka
   clear ka
   go_wp2_with (first | (refine zaO (by kernel_rfl) 50 _ rfl n8 0 rfl (letL a) _ lA Tryz.underlying50 rfl (by kernel_rfl) ?_) | (refine zaO (by kernel_rfl) 50 _ rfl G1 0 rfl (letL x) _ lX Tryz.underlying50 rfl (by kernel_rfl) ?_))
   refine KA.out.mono ?_
   rintro e w12 ⟨rfl, q12⟩
   clear KA lA lB lX lY lC lD
   have TN := (⟨T11.out.1.fr q12 (fun h => h), T11.out.2.1.fr q12 (fun h => h), T11.out.2.2.1.fr q12 (fun h => h), T11.out.2.2.2.1.fr q12 (fun h => h), T11.out.2.2.2.2.1.fr q12 (fun h => h), T11.out.2.2.2.2.2.fr q12 (fun h => h)⟩ : Blk w12 n8 50 (letA a) ∧ Blk w12 n9 50 (letA b) ∧ Blk w12 G1 50 (letA x) ∧ Blk w12 G2 50 (letA y) ∧ Blk w12 n16 50 (letA cc) ∧ Blk w12 n17 50 (letA dd))
   have lA := Blk.cells_at (l := letL a) TN.1 0
   have lB := Blk.cells_at (l := letL b) TN.2.1 0
   have lX := Blk.cells_at (l := letL x) TN.2.2.1 0
   have lY := Blk.cells_at (l := letL y) TN.2.2.2.1 0
   have lC := Blk.cells_at (l := letL cc) TN.2.2.2.2.1 0
   have lD := Blk.cells_at (l := letL dd) TN.2.2.2.2.2 0
   have T12 := Lib.hid TN
   clear TN T11
   have qB := qB.tr q12
   have qW := qW.tr q12
   have kb := zf4 w12 _ F b y (bL.nw qB) (hy.nw qW) HEB.out szb
   have KB := Lib.hid kb
   clear kb
   go_wp2_with (first | (refine zaO (by kernel_rfl) 50 _ rfl n9 0 rfl (letL b) _ lB Tryz.underlying50 rfl (by kernel_rfl) ?_) | (refine zaO (by kernel_rfl) 50 _ rfl G2 0 rfl (letL y) _ lY Tryz.underlying50 rfl (by kernel_rfl) ?_))
   refine KB.out.mono ?_
   rintro e w13 ⟨rfl, q13⟩
   clear KB lA lB lX lY lC lD
   have TN := (⟨T12.out.1.fr q13 (fun h => h), T12.out.2.1.fr q13 (fun h => h), T12.out.2.2.1.fr q13 (fun h => h), T12.out.2.2.2.1.fr q13 (fun h => h), T12.out.2.2.2.2.1.fr q13 (fun h => h), T12.out.2.2.2.2.2.fr q13 (fun h => h)⟩ : Blk w13 n8 50 (letA a) ∧ Blk w13 n9 50 (letA b) ∧ Blk w13 G1 50 (letA x) ∧ Blk w13 G2 50 (letA y) ∧ Blk w13 n16 50 (letA cc) ∧ Blk w13 n17 50 (letA dd))
   have T13 := Lib.hid TN
   clear TN T12
   have qB := qB.tr q13
   have qW := qW.tr q13
   have q9D : Nw w9 w13 := (qN.tr q12).tr q13
   have hs9 := hs.own.fr (q68.tr q9) (fun _ _ h => h)
   have hu9 := hu.own.fr q9 (fun _ _ h => h)
   have hap : ∀ w14, w14 = w13.alloc (.cells #[.slice As ns cs, .slice Au nu cu] 48) → Calls Tryz.prog 41 #[.slice (some ⟨w13.heap.size, 0, none⟩) 2 2] w14 fun e w' => e = .returned (.bool true) ∧ Fr (fun k => (w5.heap.size ≤ k ∧ k < w6.heap.size) ∨ (w7.heap.size ≤ k ∧ k < w8.heap.size)) w14 w' := fun w14 hw => by
    have q14 : Nw w13 w14 := by rw [hw]; exact (Fr.refl (fun _ => False) _).alloc _
    have hsz := SZS.out
    have h9D := q9D.size
    have a1 : LsHd w14 (fun k => w5.heap.size ≤ k ∧ k < w6.heap.size) 5 1 zaw ⟨As, cs, sl⟩ := ⟨(hs9.fr q9D (fun _ _ h => h)).fr q14 (fun _ _ h => h), fun k hk => ⟨hs.base k hk, hs.own.lt k hk⟩⟩
    have a2 : LsHd w14 (fun k => w7.heap.size ≤ k ∧ k < w8.heap.size) 5 1 zaw ⟨Au, cu, ul⟩ := ⟨(hu9.fr q9D (fun _ _ h => h)).fr q14 (fun _ _ h => h), fun k hk => ⟨hu.base k hk, hu.own.lt k hk⟩⟩
    have hH := (Held.one a1).append (H := fun k => (w5.heap.size ≤ k ∧ k < w6.heap.size) ∨ (w7.heap.size ≤ k ∧ k < w8.heap.size)) (Held.one a2) (fun k h1 h2 => by omega) (fun k hk _ => .inl hk) (fun k hk _ => .inr hk)
    refine zi9 w14 (· = w13.heap.size) _ (some ⟨w13.heap.size, 0, none⟩) 2 ([⟨As, cs, sl⟩] ++ [⟨Au, cu, ul⟩]) ?_ hH (fun k hk => by have := q14.size; omega) (by simp) (fun s hs => ?_) 2 rfl
    ·have := zaI w13 48 [.slice As ns cs, .slice Au nu cu] _ rfl
     rw [hw]
     simpa [lvs, Ls.v, HNS.out, HNU.out] using this
    ·have h1 : sl = r.getD [] := ES.out
     have h2 : ul = r.getD [] := EU.out
     have h3 := HRL.out
     simp only [List.cons_append, List.nil_append, List.mem_cons, List.not_mem_nil, or_false] at hs
     rcases hs with rfl | rfl
     ·show sl.length ≤ _
      rw [h1]; omega
     ·show ul.length ≤ _
      rw [h2]; omega
   have HAP := Lib.hid hap
   clear hap hs9 hu9
   go_wp2_with fail
   refine (HAP.out _ rfl).mono ?_
   rintro e w15 ⟨rfl, f15⟩
   clear HAP
   have f135 : Fr (fun k => (w5.heap.size ≤ k ∧ k < w6.heap.size) ∨ (w7.heap.size ≤ k ∧ k < w8.heap.size)) w13 w15 := (Nw.on ((Fr.refl (fun _ => False) w13).alloc _)).tr f15
   clear f15
   have hbd := BD.out
   have hsz := SZS.out
   have h9D := q9D.size
   have TN := (⟨T13.out.1.fr f135 (by omega), T13.out.2.1.fr f135 (by omega), T13.out.2.2.1.fr f135 (by omega), T13.out.2.2.2.1.fr f135 (by omega), T13.out.2.2.2.2.1.fr f135 (by omega), T13.out.2.2.2.2.2.fr f135 (by omega)⟩ : Blk w15 n8 50 (letA a) ∧ Blk w15 n9 50 (letA b) ∧ Blk w15 G1 50 (letA x) ∧ Blk w15 G2 50 (letA y) ∧ Blk w15 n16 50 (letA cc) ∧ Blk w15 n17 50 (letA dd))
   have lA := Blk.cells_at (l := letL a) TN.1 0
   have lB := Blk.cells_at (l := letL b) TN.2.1 0
   have lX := Blk.cells_at (l := letL x) TN.2.2.1 0
   have lY := Blk.cells_at (l := letL y) TN.2.2.2.1 0
   have lC := Blk.cells_at (l := letL cc) TN.2.2.2.2.1 0
   have lD := Blk.cells_at (l := letL dd) TN.2.2.2.2.2 0
   have T15 := Lib.hid TN
   have F15 : ∀ k, (w8.heap.size ≤ k ∧ k < w9.heap.size ∧ k ≠ n16 ∧ k ≠ n17) → k < w15.heap.size := fun k hk => by have := f135.size; omega
   have hb9 : ∀ k, vq w8 true true n16 n17 k → k < w9.heap.size → (w8.heap.size ≤ k ∧ k < w9.heap.size ∧ k ≠ n16 ∧ k ≠ n17) := fun k hk hl => ⟨hk.1, hl, hk.2.1 rfl, hk.2.2 rfl⟩
   have hb13 : ∀ k, (w8.heap.size ≤ k ∧ k < w9.heap.size ∧ k ≠ n16 ∧ k ≠ n17) → ¬ ((w5.heap.size ≤ k ∧ k < w6.heap.size) ∨ (w7.heap.size ≤ k ∧ k < w8.heap.size)) := fun k hk h2 => by omega
   have fcc : cc.ents.l.length ≤ 3000 := by have := congrArg (fun z => z.ents.length) HEC.out; simp only [List.length_map] at this; omega
   have fdd : dd.ents.l.length ≤ 3000 := by have := congrArg (fun z => z.ents.length) HED.out; simp only [List.length_map] at this; omega
   have hal := zjm (((cH.mono hb9).nw q9D).fr f135 hb13) (((dH.mono hb9).nw q9D).fr f135 hb13) HCD.out szc szd fcc fdd F15
   have HAL := Lib.hid hal
   clear hal TN T13 hbd hsz h9D F15 hb9 hb13 fcc fdd
   go_wp2_with (refine zaO (by kernel_rfl) 50 _ rfl _ 0 rfl _ _ (by first | exact lC | exact lD) Tryz.underlying50 rfl (by kernel_rfl) ?_)
   refine HAL.out.mono ?_
   rintro e w18 ⟨rfl, f18⟩
   clear HAL lA lB lX lY lC lD
   have hbd := BD.out
   have hsz := SZS.out
   have h9D := q9D.size
   have h15 := f135.size
   have TN := (⟨T15.out.1.fr f18 (by omega), T15.out.2.2.1.fr f18 (by omega)⟩ : Blk w18 n8 50 (letA a) ∧ Blk w18 G1 50 (letA x))
   have lA := Blk.cells_at (l := letL a) TN.1 0
   have lX := Blk.cells_at (l := letL x) TN.2 0
   have hW5 := Q5.size
   have aZ := (((aL.mono (F' := fun k => k < w5.heap.size) fun k _ hl => hl).nw qB).fr f135 (fun k h1 h2 => by omega)).fr f18 (fun k h1 h2 => by omega)
   have xZ := ((hx.nw qW).fr f135 (fun k h1 h2 => by have := hF k h1; omega)).fr f18 (fun k h1 h2 => by have := hF k h1; omega)
   have ka := zf4 w18 _ F a x aZ xZ HEA.out sza
   have KA := Lib.hid ka
   clear ka TN T15 hbd hsz h9D h15 hW5 aZ xZ
   go_wp2_with (refine zaO (by kernel_rfl) 50 _ rfl _ 0 rfl _ _ (by first | exact lA | exact lX) Tryz.underlying50 rfl (by kernel_rfl) ?_)
   refine KA.out.mono ?_
   rintro e w19 ⟨rfl, q19⟩
   clear KA lA lX
   go_wp2_with fail
   refine (zdp _).mono ?_
   rintro e w20 ⟨rfl, q20⟩
   go_wp2_with fail
   go_ret
   have r1 : Nw W w15 := qW.new f135 (fun k hk => by have := Q5.size; have := SZS.out; omega)
   have r2 : Nw W w18 := r1.new f18 (fun k hk => by have := Q5.size; have := SZS.out; have := r1.size; omega)
   exact ⟨rfl, (r2.tr q19).tr q20⟩
end Go.Proofs.YtippdjaakcgeoaaGreat
