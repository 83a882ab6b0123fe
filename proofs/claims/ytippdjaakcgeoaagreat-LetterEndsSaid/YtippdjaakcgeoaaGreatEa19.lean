/- Lemmas of the walks: GdE, RrB, RrC. (Laid together by shake.py.) -/
import Derived.Test.YtippdjaakcgeoaaGreatEa16
import Derived.Test.YtippdjaakcgeoaaGreatEa18
set_option linter.unusedVariables false
set_option linter.unusedSimpArgs false
set_option maxRecDepth 100000
set_option maxHeartbeats 16000000
namespace Go.Proofs.YtippdjaakcgeoaaGreat
open Go Go.RowKit
theorem zl9 (x : BasM) : zbi x.x = (decide (0 ≤ x.index ∧ x.index ≤ 1073741824) && (decide (0 ≤ x.term ∧ x.term ≤ 1073741824) && zby x.cfg.x)) := by
 rw [zhy, Bool.decide_and, Bool.decide_and]
 simp only [Bool.and_assoc]
theorem jbas (w : World) (F : Nat → Prop) (x : BasM) (hx : zaD w F x.cfg) (hz : zaY x.cfg) :
  Calls Tryz.prog 213 #[.agg (basA x)] w fun e w' => e = .returned (.bool (zbi x.x)) ∧ Nw w w' := by
 obtain ⟨W0, hW0⟩ : ∃ W, W = w.alloc (.cells (basA x) 47) := ⟨_, rfl⟩
 have p0 : Nw w W0 := by rw [hW0]; exact (Fr.refl (fun _ => False) _).alloc _
 have b0 : Blk W0 w.heap.size 47 (basA x) := by rw [hW0]; exact Blk.new _ _ _
 have k0 : W0.cell? ⟨w.heap.size, 0, none⟩ = some (I64 x.index) := by simpa using b0.cell 0
 have k1 : W0.cell? ⟨w.heap.size, 1, none⟩ = some (I64 x.term) := by simpa using b0.cell 1
 have kc : ∀ p u, ((cl9 x.cfg) : List Value)[p]? = some u → W0.cell? ⟨w.heap.size, 2 + p, none⟩ = some u := Blk.cells_in (l := (bl9 x)) b0 2 4
 have hcon := jcfg W0 F x.cfg (hx.nw p0) hz
 have c1 := zdK W0 x.index 1073741824
 have c2 := zdK W0 x.term 1073741824
 rw [zl9]
 obtain ⟨a, ha⟩ : ∃ d, decide (0 ≤ x.index ∧ x.index ≤ 1073741824) = d := ⟨_, rfl⟩
 obtain ⟨b, hb⟩ : ∃ d, decide (0 ≤ x.term ∧ x.term ≤ 1073741824) = d := ⟨_, rfl⟩
 obtain ⟨d, hd⟩ : ∃ d, zby x.cfg.x = d := ⟨_, rfl⟩
 rw [ha] at c1
 rw [hb] at c2
 rw [hd] at hcon
 rw [ha, hb, hd]
 have HW0 := Lib.hid hW0
 clear hW0 ha hb hd b0
 cases a with
 | false =>
  go_enter Tryz.func213, Tryz.ntmps213
  go_upto_region 1 with (fail)
  rw [← HW0.out]
  go_wp2_with fail
  refine c1.mono ?_
  rintro e w1 ⟨rfl, rfl⟩
  go_wp2_with fail
  go_ret
  exact ⟨rfl, p0⟩
 | true =>
  cases b with
  | false =>
   go_enter Tryz.func213, Tryz.ntmps213
   go_upto_region 1 with (fail)
   rw [← HW0.out]
   go_wp2_with fail
   refine c1.mono ?_
   rintro e w1 ⟨rfl, rfl⟩
   go_wp2_with fail
   refine c2.mono ?_
   rintro e w1 ⟨rfl, rfl⟩
   go_wp2_with fail
   go_ret
   exact ⟨rfl, p0⟩
  | true =>
   go_enter Tryz.func213, Tryz.ntmps213
   go_upto_region 1 with (fail)
   rw [← HW0.out]
   go_wp2_with fail
   refine c1.mono ?_
   rintro e w1 ⟨rfl, rfl⟩
   go_wp2_with fail
   refine c2.mono ?_
   rintro e w1 ⟨rfl, rfl⟩
   go_wp2_with (refine zaO (by kernel_rfl) 45 _ rfl w.heap.size 2 rfl (cl9 x.cfg) _ kc Tryz.underlying45 rfl (by kernel_rfl) ?_)
   refine hcon.mono ?_
   rintro e w1 ⟨rfl, q1⟩
   go_wp2_with fail
   go_ret
   exact ⟨zad (congrArg Value.bool (by simp)), p0.tr q1⟩
theorem zaQ.zero (w0 w : World) : zaQ w0 w zcS := (zaV.zero w0 w).cfg
theorem zhR (w : World) (F : Nat → Prop) (g : Nat) (s : Rd) (h : IsRd w F g s) :
  Calls Tryz.prog 168 #[.pointer (some ⟨g, 0, none⟩)] w fun e w' => ∃ y : BasM, e = .returned (.tuple #[.agg (basA y), .bool (zbu s).2]) ∧ y.x = (zbu s).1 ∧ zaQ w w' y.cfg ∧ RdTo w F g (zb8 s).2 w' := by
 have hE : zb8 s = (⟨(za1 1073741824 s).1, (za1 1073741824 (za1 1073741824 s).2).1, (zat (za1 1073741824 (za1 1073741824 s).2).2).1⟩, (zat (za1 1073741824 (za1 1073741824 s).2).2).2) := rfl
 have hT : zbu s = if ((zb8 s).2.isSome && zbi (zb8 s).1) = true then ((zb8 s).1, true) else (basZ, false) := rfl
 obtain ⟨⟨qe, qd⟩, hqq⟩ : ∃ q, zbu s = q := ⟨_, rfl⟩
 rw [hqq, hE]
 rw [hqq, hE] at hT
 clear hqq hE
 have n1 := fun w1 h1 => zb5 w1 F g s h1 1073741824
 obtain ⟨⟨t, s1⟩, hq1⟩ : ∃ q, za1 1073741824 s = q := ⟨_, rfl⟩
 simp only [hq1] at n1 hT ⊢
 have n2 := fun w1 h1 => zb5 w1 F g s1 h1 1073741824
 obtain ⟨⟨u, s2⟩, hq2⟩ : ∃ q, za1 1073741824 s1 = q := ⟨_, rfl⟩
 simp only [hq2] at n2 hT ⊢
 have n3 := fun w1 h1 => zer w1 F g s2 h1
 have N1 := Lib.hid n1
 have N2 := Lib.hid n2
 have N3 := Lib.hid n3
 have HT0 := Lib.hid hT
 clear hT n1 n2 n3 hq1 hq2
 obtain ⟨R, hR⟩ : ∃ X, X = w.heap.size := ⟨_, rfl⟩
 obtain ⟨X, hX⟩ : ∃ Y, Y = w.heap.size + 1 := ⟨_, rfl⟩
 obtain ⟨Wa, hWa⟩ : ∃ W, W = w.alloc (.cells zB9A 47) := ⟨_, rfl⟩
 have pa : Nw w Wa := by rw [hWa]; exact (Fr.refl (fun _ => False) _).alloc _
 have ra : Blk Wa R 47 zB9A := by rw [hWa, hR]; exact Blk.new _ _ _
 have hza : Wa.heap.size = X := by rw [hWa, hX]; simp
 obtain ⟨W0, hW0⟩ : ∃ W, W = Wa.alloc (.cells zB9A 47) := ⟨_, rfl⟩
 have p0 : Nw Wa W0 := by rw [hW0]; exact (Fr.refl (fun _ => False) _).alloc _
 have x0 : Blk W0 X 47 zB9A := by rw [hW0, ← hza]; exact Blk.new _ _ _
 have r0 := ra.fr p0 (fun h => h)
 have Q0 : Nw w W0 := pa.tr p0
 have hgl := h.lt
 have hFl := h.out.2
 have hRX : R ≠ X := by omega
 have hgX : g ≠ X := by omega
 have hwR : w.heap.size ≤ R := by omega
 have hwX : w.heap.size ≤ X := by omega
 have hXl : X < W0.heap.size := x0.lt
 obtain ⟨KK, hKK⟩ : ∃ K : World → Prop, K = fun wz => Blk wz R 47 zB9A := ⟨_, rfl⟩
 have hKe : ∀ wz, KK wz → Blk wz R 47 zB9A := fun wz hk => by rw [hKK] at hk; exact hk
 have hKi : ∀ wz, Blk wz R 47 zB9A → KK wz := fun wz hk => by rw [hKK]; exact hk
 have st0 : RSt true w W0 F g X 47 KK s zB9A := ⟨h.fr Q0 (fun h => h) (fun _ _ h => h), x0, hKi _ r0, Nw.on Q0, hgX, fun hF => by have := hFl _ hF; omega, hwX, fun a c f hk => hKi _ ((hKe _ hk).fr f (by omega))⟩
 have HR := Lib.hid hR
 have HX := Lib.hid hX
 have HWa := Lib.hid hWa
 have HW0 := Lib.hid hW0
 clear hR hX hWa hW0 hza ra x0 r0 pa p0 hKK
 go_enter Tryz.func168, Tryz.ntmps168
 go_upto_region 2 with (fail)
 rw [← HX.out, ← HR.out, ← HWa.out, ← HW0.out]
 go_upto_region 3 with (go_at_call 96; refine (N1.out _ st0.rd).mono ?_; rintro e w1 ⟨rfl, h1⟩; have su1 := st0.callP h1; have c1 : w1.cell? ⟨X, 0, none⟩ = some (I64 0) := (by simpa using su1.x.cell 0); have f1 := su1.x.frozen 0)
 obtain ⟨W1, hW1⟩ : ∃ W, W = w1.setCell ⟨X, 0, none⟩ (I64 t) := ⟨_, rfl⟩
 have st1 : RSt true w W1 F g X 47 KK s1 #[I64 t, I64 0, .slice none 0 0, .slice none 0 0, .slice none 0 0, .slice none 0 0] := by rw [hW1]; exact su1.set_ 0 (I64 t)
 have HW1 := Lib.hid hW1
 rw [← HW1.out]
 clear hW1 su1 c1 f1 st0
 go_upto_region 4 with (go_at_call 96; refine (N2.out _ st1.rd).mono ?_; rintro e w2 ⟨rfl, h2⟩; have su2 := st1.callP h2; have c2 : w2.cell? ⟨X, 1, none⟩ = some (I64 0) := (by simpa using su2.x.cell 1); have f2 := su2.x.frozen 1)
 obtain ⟨W2, hW2⟩ : ∃ W, W = w2.setCell ⟨X, 1, none⟩ (I64 u) := ⟨_, rfl⟩
 have st2 : RSt true w W2 F g X 47 KK s2 #[I64 t, I64 u, .slice none 0 0, .slice none 0 0, .slice none 0 0, .slice none 0 0] := by rw [hW2]; exact su2.set_ 1 (I64 u)
 have HW2 := Lib.hid hW2
 rw [← HW2.out]
 clear hW2 su2 c2 f2 st1
 have bu3 := st2.x.lt
 have bR3 := (hKe _ st2.k).lt
 go_wp2_with fail
 refine (N3.out _ st2.rd).mono ?_
 rintro e w4 ⟨y4, rfl, ey4, oy4, h4⟩
 have su4 := st2.callP h4
 have th4 := Blk.there (l := [I64 t, I64 u, .slice none 0 0, .slice none 0 0, .slice none 0 0, .slice none 0 0]) su4.x 2 4 (by show 2 + 4 ≤ 6; omega)
 have one4 := zdi y4
 obtain ⟨W4, hW4⟩ : ∃ W, W = w4.setCells X 2 (cl9 y4) := ⟨_, rfl⟩
 have m4 : Fr (· = X) w4 W4 := by rw [hW4]; exact (Fr.refl (· = X) _).setCells _ _
 have x4 : Blk W4 X 47 (lb9A t u y4) := by rw [hW4]; exact Blk.setCells (l := [I64 t, I64 u, .slice none 0 0, .slice none 0 0, .slice none 0 0, .slice none 0 0]) su4.x 2 (cl9 y4)
 have r4 : Blk W4 R 47 zB9A := (hKe _ su4.k).fr m4 hRX
 have rd4 : IsRd W4 F g (zat s2).2 := IsRd.fr su4.rd m4 hgX (fun j hj e => by have := hFl j hj; omega)
 have f4 : Fr (· = g) w W4 := su4.fr.trans m4 (fun j hj => .inr (by omega))
 have oc4 : zaQ W2 W4 y4 := oy4.fr m4 (fun j hj e => by omega)
 have sz3 := st2.fr.size
 have own4 : zaQ w W4 y4 := oc4.from_ sz3
 have HW4 := Lib.hid hW4
 have cf := zfS W4 F g (zat s2).2 rd4
 have cj := jbas W4 _ ⟨t, u, y4⟩ own4.in_ (zdJ ey4)
 have hyx : (⟨t, u, y4⟩ : BasM).x = ⟨t, u, (zat s2).1⟩ := by show (⟨t, u, y4.x⟩ : Bas) = _; rw [ey4]
 rw [hyx] at cj
 obtain ⟨⟨cg, s4⟩, hq4⟩ : ∃ q, zat s2 = q := ⟨_, rfl⟩
 have hT := HT0.out
 simp only [hq4] at cj cf rd4 hyx hT
 have HQ4 := Lib.hid hq4
 obtain ⟨ok, hok⟩ : ∃ ok, ok = zbi ⟨t, u, cg⟩ := ⟨_, rfl⟩
 rw [← hok] at cj
 rw [← hok] at hT
 have lx4 := Blk.cells_at (l := (lb9L t u y4)) x4 0
 clear hW4 su4 h4 oy4 ey4 st2 hq4 hok
 have HT := Lib.hid hT
 have HYX := Lib.hid hyx
 clear hT hyx
 cases s4 with
 | none =>
  have ct : Calls Tryz.prog 212 #[.pointer (some ⟨g, 0, none⟩)] W4 fun e w' => e = .returned (.bool true) ∧ W4 = w' := cf
  have thz := Blk.there (l := zB9L) r4 0 6 (by show 0 + 6 ≤ 6; omega)
  have onez := zcY zcP
  obtain ⟨W5, hw5⟩ : ∃ W, W = W4.setCells R 0 zB9L := ⟨_, rfl⟩
  have m5 : Fr (· = R) W4 W5 := by rw [hw5]; exact (Fr.refl (· = R) _).setCells _ _
  have r5 : Blk W5 R 47 zB9A := by rw [hw5]; exact Blk.setCells (l := zB9L) r4 0 zB9L
  have own5 := zaQ.zero w W5
  have res : zaQ w W5 zcS ∧ RdTo w F g none W5 := ⟨own5, rd4.fr m5 (fun e => by omega) (fun j hj e => by have := hFl j hj; omega), f4.trans m5 (fun j hj => .inr (by omega))⟩
  have HW5 := Lib.hid hw5
  have HRES := Lib.hid res
  clear own5 res hw5
  go_wp2_with (first | (refine wpList_store_mid rfl 45 _ _ rfl X 2 (cfgA y4) rfl rfl th4 (by kernel_rfl) one4 ?_; rw [← HW4.out]))
  refine ct.mono ?_
  rintro e w5 ⟨rfl, rfl⟩
  go_wp2_with (refine wpList_store_mid rfl 47 _ _ rfl R 0 zB9A rfl rfl thz (by kernel_rfl) onez ?_; rw [← HW5.out])
  refine bodyPost_ret (v := .tuple #[.agg zB9A, .bool false]) ?_ rfl ?_
  ·exact zan rfl _ _ R 47 _ (0, 0) _ _ rfl rfl r5 Tryz.underlying47 rfl (by kernel_rfl)
  obtain ⟨h1, h2⟩ := HRES.out
  have hT : (qe, qd) = (basZ, false) := HT.out
  obtain ⟨rfl, rfl⟩ := Prod.mk.inj hT
  exact ⟨zcP, rfl, rfl, h1, by rw [HQ4.out]; exact h2⟩
 | some r =>
  have ct : Calls Tryz.prog 212 #[.pointer (some ⟨g, 0, none⟩)] W4 fun e w' => e = .returned (.bool false) ∧ W4 = w' := cf
  go_wp2_with (first | (refine wpList_store_mid rfl 45 _ _ rfl X 2 (cfgA y4) rfl rfl th4 (by kernel_rfl) one4 ?_; rw [← HW4.out]))
  refine ct.mono ?_
  rintro e w5 ⟨rfl, rfl⟩
  go_wp2_with (refine zaO (by kernel_rfl) 47 _ rfl X 0 rfl (lb9L t u y4) _ lx4 Tryz.underlying47 rfl (by kernel_rfl) ?_)
  refine cj.mono ?_
  rintro e v5 ⟨rfl, p5⟩
  have r4' := r4.fr p5 (fun h => h)
  have rd4' : IsRd v5 F g (some r) := IsRd.fr rd4 p5 (fun h => h) (fun _ _ h => h)
  have f4' : Fr (· = g) w v5 := f4.trans p5 (fun j hj => hj.elim)
  cases ok with
  | false =>
   have thz := Blk.there (l := zB9L) r4' 0 6 (by show 0 + 6 ≤ 6; omega)
   have onez := zcY zcP
   obtain ⟨W5, hw5⟩ : ∃ W, W = v5.setCells R 0 zB9L := ⟨_, rfl⟩
   have m5 : Fr (· = R) v5 W5 := by rw [hw5]; exact (Fr.refl (· = R) _).setCells _ _
   have r5 : Blk W5 R 47 zB9A := by rw [hw5]; exact Blk.setCells (l := zB9L) r4' 0 zB9L
   have own5 := zaQ.zero w W5
   have res : zaQ w W5 zcS ∧ RdTo w F g (some r) W5 := ⟨own5, rd4'.fr m5 (fun e => by omega) (fun j hj e => by have := hFl j hj; omega), f4'.trans m5 (fun j hj => .inr (by omega))⟩
   have HW5 := Lib.hid hw5
   have HRES := Lib.hid res
   clear own5 res hw5
   go_wp2_with (refine wpList_store_mid rfl 47 _ _ rfl R 0 zB9A rfl rfl thz (by kernel_rfl) onez ?_; rw [← HW5.out])
   refine bodyPost_ret (v := .tuple #[.agg zB9A, .bool false]) ?_ rfl ?_
   ·exact zan rfl _ _ R 47 _ (0, 0) _ _ rfl rfl r5 Tryz.underlying47 rfl (by kernel_rfl)
   obtain ⟨h1, h2⟩ := HRES.out
   have hT : (qe, qd) = (basZ, false) := HT.out
   obtain ⟨rfl, rfl⟩ := Prod.mk.inj hT
   exact ⟨zcP, rfl, rfl, h1, by rw [HQ4.out]; exact h2⟩
  | true =>
   have x5 := x4.fr p5 (fun h => h)
   have lx5 := Blk.cells_at (l := (lb9L t u y4)) x5 0
   have own4' := own4.fr p5 (fun _ _ h => h)
   have thz := Blk.there (l := zB9L) r4' 0 6 (by show 0 + 6 ≤ 6; omega)
   have onez := zcY ⟨t, u, y4⟩
   obtain ⟨W5, hw5⟩ : ∃ W, W = v5.setCells R 0 (lb9L t u y4) := ⟨_, rfl⟩
   have m5 : Fr (· = R) v5 W5 := by rw [hw5]; exact (Fr.refl (· = R) _).setCells _ _
   have r5 : Blk W5 R 47 (lb9A t u y4) := by rw [hw5]; exact Blk.setCells (l := zB9L) r4' 0 (lb9L t u y4)
   have own5 : zaQ w W5 y4 := ((oc4.fr p5 (fun _ _ h => h)).fr m5 (fun j hj e => by omega)).from_ sz3
   have res : zaQ w W5 y4 ∧ RdTo w F g (some r) W5 := ⟨own5, rd4'.fr m5 (fun e => by omega) (fun j hj e => by have := hFl j hj; omega), f4'.trans m5 (fun j hj => .inr (by omega))⟩
   have HW5 := Lib.hid hw5
   have HRES := Lib.hid res
   clear own5 res hw5 own4'
   go_wp2_with (first | (refine za5 rfl 47 _ rfl X 0 rfl (lb9L t u y4) _ lx5 Tryz.underlying47 rfl (by kernel_rfl) ?_) | (refine wpList_store_mid rfl 47 _ _ rfl R 0 (lb9A t u y4) rfl rfl thz (by kernel_rfl) onez ?_; rw [← HW5.out]))
   refine bodyPost_ret (v := .tuple #[.agg (lb9A t u y4), .bool true]) ?_ rfl ?_
   ·exact zan rfl _ _ R 47 _ (0, 0) _ _ rfl rfl r5 Tryz.underlying47 rfl (by kernel_rfl)
   obtain ⟨h1, h2⟩ := HRES.out
   have hT : (qe, qd) = ((⟨t, u, cg⟩ : Bas), true) := HT.out
   obtain ⟨rfl, rfl⟩ := Prod.mk.inj hT
   exact ⟨⟨t, u, y4⟩, rfl, by rw [HYX.out], h1, by rw [HQ4.out]; exact h2⟩
open Go Go.RowKit
def IsQR (b : Bool) (w : World) (F : Nat → Prop) (g : Nat) (s : Rd) : Prop := IsRR w F g s
def QToR (b : Bool) (w : World) (F : Nat → Prop) (g : Nat) (s : Rd) (w' : World) : Prop := IsQR b w' F g s ∧ Fr (· = g) w w'
theorem IsQR.fr {b : Bool} {w w' : World} {F S : Nat → Prop} {g : Nat} {s : Rd} (h : IsQR b w F g s) (hf : Fr S w w') (hg : ¬ S g) (hd : ∀ k, F k → ¬ S k) : IsQR b w' F g s := IsRR.fr h hf hg hd
structure RStR (b : Bool) (w0 wr : World) (F : Nat → Prop) (g X : Nat) (t : TypeId) (K : World → Prop) (s : Rd) (cs : Array Value) : Prop where
 rd : IsQR b wr F g s
 x : Blk wr X t cs
 k : K wr
 fr : Fr (· = g) w0 wr
 gX : g ≠ X
 FX : ¬ F X
 new : w0.heap.size ≤ X
 st : ∀ a c, Fr (fun k => k = g ∨ k = X) a c → K a → K c
section
variable {b : Bool} {w0 wr w' : World} {F : Nat → Prop} {g X : Nat} {t : TypeId} {K K' : World → Prop} {s s' : Rd} {cs : Array Value}
theorem RStR.call (h : RStR b w0 wr F g X t K s cs) (q : QToR b wr F g s' w') : RStR b w0 w' F g X t K s' cs :=
 ⟨q.1, h.x.fr q.2 (fun e => h.gX e.symm), h.st _ _ (q.2.mono fun k hk => .inl (.inl hk)) h.k, h.fr.tr q.2, h.gX, h.FX, h.new, h.st⟩
theorem RStR.callR (h : RStR false w0 wr F g X t K s cs) (q : RRTo wr F g s' w') : RStR false w0 w' F g X t K s' cs := h.call q
theorem RStR.set_ (h : RStR b w0 wr F g X t K s cs) (j : Nat) (u : Value) : RStR b w0 (wr.setCell ⟨X, j, none⟩ u) F g X t K s (cs.setIfInBounds j u) :=
 have q : Fr (· = X) wr (wr.setCell ⟨X, j, none⟩ u) := (Fr.refl (· = X) wr).setCell (p := ⟨X, j, none⟩) (.inl rfl) u
 ⟨h.rd.fr q h.gX (fun k hk e => h.FX (e ▸ hk)), h.x.set_ j u, h.st _ _ (q.mono fun k hk => .inl (.inr hk)) h.k, h.fr.trans q (fun k hk => .inr (hk ▸ h.new)), h.gX, h.FX, h.new, h.st⟩
theorem RStR.nw (h : RStR b w0 wr F g X t K s cs) (q : Nw wr w') : RStR b w0 w' F g X t K s cs :=
 ⟨h.rd.fr q (fun h => h) (fun _ _ h => h), h.x.fr q (fun h => h), h.st _ _ (Nw.on q) h.k, h.fr.tr (Nw.on q), h.gX, h.FX, h.new, h.st⟩
theorem RStR.both {cs' : Array Value} (h : RStR b w0 wr F g X t K s cs) (q : Fr (fun k => k = g ∨ k = X) wr w') (hr : IsQR b w' F g s') (hx : Blk w' X t cs') : RStR b w0 w' F g X t K s' cs' :=
 ⟨hr, hx, h.st _ _ q h.k, h.fr.trans q (fun k hk => hk.elim .inl fun e => .inr (e ▸ h.new)), h.gX, h.FX, h.new, h.st⟩
theorem RStR.more (h : RStR b w0 wr F g X t K s cs) (hk : K' wr) (hst : ∀ a c, Fr (fun k => k = g ∨ k = X) a c → K' a → K' c) : RStR b w0 wr F g X t (fun w => K w ∧ K' w) s cs :=
 ⟨h.rd, h.x, ⟨h.k, hk⟩, h.fr, h.gX, h.FX, h.new, fun a c f hh => ⟨h.st a c f hh.1, hst a c f hh.2⟩⟩
theorem RStR.other {S : Nat → Prop} (h : RStR b w0 wr F g X t K s cs) (q : Fr S wr w') (hg : ¬ S g) (hX : ¬ S X) (hF : ∀ k, F k → ¬ S k) (hn : ∀ k, S k → w0.heap.size ≤ k) (hk : K' w') (hst : ∀ a c, Fr (fun k => k = g ∨ k = X) a c → K' a → K' c) : RStR b w0 w' F g X t K' s cs :=
 ⟨h.rd.fr q hg hF, h.x.fr q hX, hk, h.fr.trans q (fun k hk => .inr (hn k hk)), h.gX, h.FX, h.new, hst⟩
end
theorem zfq (w0 : World) (F : Nat → Prop) (g : Nat) (s : Rd) (h : IsRR w0 F g s) (hsz : zav s ≤ 1000000000000) :
  Calls Tryz.prog 214 #[.pointer (some ⟨g, 0, none⟩)] w0 fun e w' => ∃ y : CfgM, e = .returned (.agg (cfgA y)) ∧ y.x = (zat s).1 ∧ zaD w' (zab w0) y ∧ RRTo w0 F g (zat s).2 w' := by
 have hd : zat s = (⟨(zaA s).1, (zaA (zaA s).2).1, (zaA (zaA (zaA s).2).2).1, (zaA (zaA (zaA (zaA s).2).2).2).1⟩, (zaA (zaA (zaA (zaA s).2).2).2).2) := rfl
 rw [hd]
 have n1 := fun w1 h1 => zdY w1 F g s h1 hsz
 have l1 := Nat.le_trans (zcj s) hsz
 obtain ⟨⟨a1, s1⟩, hq1⟩ : ∃ q, zaA s = q := ⟨_, rfl⟩
 simp only [hq1] at n1 l1 ⊢
 have n2 := fun w1 h1 => zdY w1 F g s1 h1 l1
 have l2 := Nat.le_trans (zcj s1) l1
 obtain ⟨⟨a2, s2⟩, hq2⟩ : ∃ q, zaA s1 = q := ⟨_, rfl⟩
 simp only [hq2] at n2 l2 ⊢
 have n3 := fun w1 h1 => zdY w1 F g s2 h1 l2
 have l3 := Nat.le_trans (zcj s2) l2
 obtain ⟨⟨a3, s3⟩, hq3⟩ : ∃ q, zaA s2 = q := ⟨_, rfl⟩
 simp only [hq3] at n3 l3 ⊢
 have n4 := fun w1 h1 => zdY w1 F g s3 h1 l3
 obtain ⟨⟨a4, s4⟩, hq4⟩ : ∃ q, zaA s3 = q := ⟨_, rfl⟩
 simp only [hq4] at n4 ⊢
 have N1 := Lib.hid n1
 have N2 := Lib.hid n2
 have N3 := Lib.hid n3
 have N4 := Lib.hid n4
 clear n1 n2 n3 n4 hd hq1 hq2 hq3 hq4 l1 l2 l3
 obtain ⟨R, hR⟩ : ∃ X, X = w0.heap.size := ⟨_, rfl⟩
 obtain ⟨X, hX⟩ : ∃ Y, Y = w0.heap.size + 1 := ⟨_, rfl⟩
 obtain ⟨Wa, hWa⟩ : ∃ W, W = w0.alloc (.cells zC9A 45) := ⟨_, rfl⟩
 have pa : Nw w0 Wa := by rw [hWa]; exact (Fr.refl (fun _ => False) _).alloc _
 have ra : Blk Wa R 45 zC9A := by rw [hWa, hR]; exact Blk.new _ _ _
 have hza : Wa.heap.size = X := by rw [hWa, hX]; simp
 obtain ⟨W0, hW0⟩ : ∃ W, W = Wa.alloc (.cells zC9A 45) := ⟨_, rfl⟩
 have p0 : Nw Wa W0 := by rw [hW0]; exact (Fr.refl (fun _ => False) _).alloc _
 have x0 : Blk W0 X 45 zC9A := by rw [hW0, ← hza]; exact Blk.new _ _ _
 have r0 := ra.fr p0 (fun h => h)
 have Q0 : Nw w0 W0 := pa.tr p0
 have hgl := h.lt
 have hFl := h.out.2
 have hRX : R ≠ X := by omega
 have hgX : g ≠ X := by omega
 have hgR : g ≠ R := by omega
 have hwR : w0.heap.size ≤ R := by omega
 have hwX : w0.heap.size ≤ X := by omega
 obtain ⟨KK, hKK⟩ : ∃ K : World → Prop, K = fun wz => Blk wz R 45 zC9A := ⟨_, rfl⟩
 have hKe : ∀ wz, KK wz → Blk wz R 45 zC9A := fun wz hk => by rw [hKK] at hk; exact hk
 have hKi : ∀ wz, Blk wz R 45 zC9A → KK wz := fun wz hk => by rw [hKK]; exact hk
 have st0 : RStR false w0 W0 F g X 45 KK s zC9A := ⟨h.fr Q0 (fun h => h) (fun _ _ h => h), x0, hKi _ r0, Nw.on Q0, hgX, fun hF => by have := hFl _ hF; omega, hwX, fun a c f hk => hKi _ ((hKe _ hk).fr f (by omega))⟩
 have HR := Lib.hid hR
 have HX := Lib.hid hX
 have HWa := Lib.hid hWa
 have HW0 := Lib.hid hW0
 clear hR hX hWa hW0 hza ra x0 r0 pa p0 hKK
 go_enter Tryz.func214, Tryz.ntmps214
 go_upto_region 2 with (fail)
 rw [← HX.out, ← HR.out, ← HWa.out, ← HW0.out]
 have fa1 := st0.fr.size
 have fb1 := st0.x.lt
 have fc1 := (hKe _ st0.k).lt
 go_upto_region 3 with (go_at_call 226; refine (N1.out _ st0.rd).mono ?_; rintro e w1 ⟨y1, rfl, ey1, oy1, h1⟩; have su1 := st0.callR h1; have c1 : w1.cell? ⟨X, 0, none⟩ = some (.slice none 0 0) := (by simpa using su1.x.cell 0); have f1 := su1.x.frozen 0; have EY1 := Lib.hid ey1; clear ey1)
 obtain ⟨W1, hW1⟩ : ∃ W, W = w1.setCell ⟨X, 0, none⟩ (.slice y1.a y1.l.length y1.c) := ⟨_, rfl⟩
 have st1 : RStR false w0 W1 F g X 45 KK s1 #[.slice y1.a y1.l.length y1.c, .slice none 0 0, .slice none 0 0, .slice none 0 0] := by rw [hW1]; exact su1.set_ 0 (.slice y1.a y1.l.length y1.c)
 have HW1 := Lib.hid hW1
 rw [← HW1.out]
 clear hW1 su1 c1 f1
 have st1 := st1.more (K' := fun w => LsIn w (fun j => w0.heap.size ≤ j ∧ j ≠ X ∧ j ≠ R) zac y1) (by rw [HW1.out]; exact (oy1.in_.mono (fun j hj _ => by unfold zab at hj; omega)).fr ((Fr.refl (· = X) _).set1 _ _) (fun j hj e => hj.2.1 e)) (fun a c f hk => hk.fr f (fun j hj e => by have := hj.1; have := hj.2.1; omega))
 clear fa1 fb1 fc1 oy1 h1 st0
 have fa2 := st1.fr.size
 have fb2 := st1.x.lt
 have fc2 := (hKe _ st1.k.1).lt
 go_upto_region 4 with (go_at_call 226; refine (N2.out _ st1.rd).mono ?_; rintro e w2 ⟨y2, rfl, ey2, oy2, h2⟩; have su2 := st1.callR h2; have c2 : w2.cell? ⟨X, 1, none⟩ = some (.slice none 0 0) := (by simpa using su2.x.cell 1); have f2 := su2.x.frozen 1; have EY2 := Lib.hid ey2; clear ey2)
 obtain ⟨W2, hW2⟩ : ∃ W, W = w2.setCell ⟨X, 1, none⟩ (.slice y2.a y2.l.length y2.c) := ⟨_, rfl⟩
 have st2 : RStR false w0 W2 F g X 45 (fun w => KK w ∧ LsIn w (fun j => w0.heap.size ≤ j ∧ j ≠ X ∧ j ≠ R) zac y1) s2 #[.slice y1.a y1.l.length y1.c, .slice y2.a y2.l.length y2.c, .slice none 0 0, .slice none 0 0] := by rw [hW2]; exact su2.set_ 1 (.slice y2.a y2.l.length y2.c)
 have HW2 := Lib.hid hW2
 rw [← HW2.out]
 clear hW2 su2 c2 f2
 have st2 := st2.more (K' := fun w => LsIn w (fun j => w0.heap.size ≤ j ∧ j ≠ X ∧ j ≠ R) zac y2) (by rw [HW2.out]; exact (oy2.in_.mono (fun j hj _ => by unfold zab at hj; omega)).fr ((Fr.refl (· = X) _).set1 _ _) (fun j hj e => hj.2.1 e)) (fun a c f hk => hk.fr f (fun j hj e => by have := hj.1; have := hj.2.1; omega))
 clear fa2 fb2 fc2 oy2 h2 st1
 have fa3 := st2.fr.size
 have fb3 := st2.x.lt
 have fc3 := (hKe _ st2.k.1.1).lt
 go_upto_region 5 with (go_at_call 226; refine (N3.out _ st2.rd).mono ?_; rintro e w3 ⟨y3, rfl, ey3, oy3, h3⟩; have su3 := st2.callR h3; have c3 : w3.cell? ⟨X, 2, none⟩ = some (.slice none 0 0) := (by simpa using su3.x.cell 2); have f3 := su3.x.frozen 2; have EY3 := Lib.hid ey3; clear ey3)
 obtain ⟨W3, hW3⟩ : ∃ W, W = w3.setCell ⟨X, 2, none⟩ (.slice y3.a y3.l.length y3.c) := ⟨_, rfl⟩
 have st3 : RStR false w0 W3 F g X 45 (fun w => (KK w ∧ LsIn w (fun j => w0.heap.size ≤ j ∧ j ≠ X ∧ j ≠ R) zac y1) ∧ LsIn w (fun j => w0.heap.size ≤ j ∧ j ≠ X ∧ j ≠ R) zac y2) s3 #[.slice y1.a y1.l.length y1.c, .slice y2.a y2.l.length y2.c, .slice y3.a y3.l.length y3.c, .slice none 0 0] := by rw [hW3]; exact su3.set_ 2 (.slice y3.a y3.l.length y3.c)
 have HW3 := Lib.hid hW3
 rw [← HW3.out]
 clear hW3 su3 c3 f3
 have st3 := st3.more (K' := fun w => LsIn w (fun j => w0.heap.size ≤ j ∧ j ≠ X ∧ j ≠ R) zac y3) (by rw [HW3.out]; exact (oy3.in_.mono (fun j hj _ => by unfold zab at hj; omega)).fr ((Fr.refl (· = X) _).set1 _ _) (fun j hj e => hj.2.1 e)) (fun a c f hk => hk.fr f (fun j hj e => by have := hj.1; have := hj.2.1; omega))
 clear fa3 fb3 fc3 oy3 h3 st2
 have fa4 := st3.fr.size
 have fb4 := st3.x.lt
 have fc4 := (hKe _ st3.k.1.1.1).lt
 go_upto_region 6 with (go_at_call 226; refine (N4.out _ st3.rd).mono ?_; rintro e w4 ⟨y4, rfl, ey4, oy4, h4⟩; have su4 := st3.callR h4; have c4 : w4.cell? ⟨X, 3, none⟩ = some (.slice none 0 0) := (by simpa using su4.x.cell 3); have f4 := su4.x.frozen 3; have EY4 := Lib.hid ey4; clear ey4)
 obtain ⟨W4, hW4⟩ : ∃ W, W = w4.setCell ⟨X, 3, none⟩ (.slice y4.a y4.l.length y4.c) := ⟨_, rfl⟩
 have st4 : RStR false w0 W4 F g X 45 (fun w => ((KK w ∧ LsIn w (fun j => w0.heap.size ≤ j ∧ j ≠ X ∧ j ≠ R) zac y1) ∧ LsIn w (fun j => w0.heap.size ≤ j ∧ j ≠ X ∧ j ≠ R) zac y2) ∧ LsIn w (fun j => w0.heap.size ≤ j ∧ j ≠ X ∧ j ≠ R) zac y3) s4 #[.slice y1.a y1.l.length y1.c, .slice y2.a y2.l.length y2.c, .slice y3.a y3.l.length y3.c, .slice y4.a y4.l.length y4.c] := by rw [hW4]; exact su4.set_ 3 (.slice y4.a y4.l.length y4.c)
 have HW4 := Lib.hid hW4
 rw [← HW4.out]
 clear hW4 su4 c4 f4
 have st4 := st4.more (K' := fun w => LsIn w (fun j => w0.heap.size ≤ j ∧ j ≠ X ∧ j ≠ R) zac y4) (by rw [HW4.out]; exact (oy4.in_.mono (fun j hj _ => by unfold zab at hj; omega)).fr ((Fr.refl (· = X) _).set1 _ _) (fun j hj e => hj.2.1 e)) (fun a c f hk => hk.fr f (fun j hj e => by have := hj.1; have := hj.2.1; omega))
 clear fa4 fb4 fc4 oy4 h4 st3
 have r4 := hKe _ st4.k.1.1.1.1
 have i1 := st4.k.1.1.1.2
 have i2 := st4.k.1.1.2
 have i3 := st4.k.1.2
 have i4 := st4.k.2
 have lx := Blk.cells_at (l := [.slice y1.a y1.l.length y1.c, .slice y2.a y2.l.length y2.c, .slice y3.a y3.l.length y3.c, .slice y4.a y4.l.length y4.c]) st4.x 0
 have th := Blk.there (l := zC9L) r4 0 4 (by show 0 + 4 ≤ 4; omega)
 have one := zdi ⟨y1, y2, y3, y4⟩
 obtain ⟨W5, hW5⟩ : ∃ W, W = W4.setCells R 0 [.slice y1.a y1.l.length y1.c, .slice y2.a y2.l.length y2.c, .slice y3.a y3.l.length y3.c, .slice y4.a y4.l.length y4.c] := ⟨_, rfl⟩
 have m5 : Fr (· = R) W4 W5 := by rw [hW5]; exact (Fr.refl (· = R) _).setCells _ _
 have r5 : Blk W5 R 45 #[.slice y1.a y1.l.length y1.c, .slice y2.a y2.l.length y2.c, .slice y3.a y3.l.length y3.c, .slice y4.a y4.l.length y4.c] := by rw [hW5]; exact Blk.setCells (l := zC9L) r4 0 [.slice y1.a y1.l.length y1.c, .slice y2.a y2.l.length y2.c, .slice y3.a y3.l.length y3.c, .slice y4.a y4.l.length y4.c]
 have hi : ∀ y : Ls Int, LsIn W4 (fun j => w0.heap.size ≤ j ∧ j ≠ X ∧ j ≠ R) zac y → LsIn W5 (zab w0) zac y := fun y i => (i.fr m5 (fun j hj e => hj.2.2 e)).mono (fun j hj _ => hj.1)
 have res : zaD W5 (zab w0) ⟨y1, y2, y3, y4⟩ ∧ RRTo w0 F g s4 W5 := ⟨⟨hi _ i1, hi _ i2, hi _ i3, hi _ i4⟩, st4.rd.fr m5 hgR (fun j hj e => by have := hFl j hj; omega), st4.fr.trans m5 (fun j hj => .inr (by omega))⟩
 have HW5 := Lib.hid hW5
 have HRES := Lib.hid res
 clear hW5 res hi st4 i1 i2 i3 i4 m5
 go_wp2_with (first | (refine za5 rfl 45 _ rfl X 0 rfl [.slice y1.a y1.l.length y1.c, .slice y2.a y2.l.length y2.c, .slice y3.a y3.l.length y3.c, .slice y4.a y4.l.length y4.c] _ lx Tryz.underlying45 rfl (by kernel_rfl) ?_) | (refine wpList_store_mid rfl 45 _ _ rfl R 0 #[.slice y1.a y1.l.length y1.c, .slice y2.a y2.l.length y2.c, .slice y3.a y3.l.length y3.c, .slice y4.a y4.l.length y4.c] rfl rfl th (by kernel_rfl) one ?_; rw [← HW5.out]))
 refine bodyPost_ret (v := .agg #[.slice y1.a y1.l.length y1.c, .slice y2.a y2.l.length y2.c, .slice y3.a y3.l.length y3.c, .slice y4.a y4.l.length y4.c]) ?_ rfl ?_
 ·exact results_cell_row rfl _ _ R 45 _ (0, 0) _ rfl r5 Tryz.underlying45 rfl (by kernel_rfl)
 refine ⟨⟨y1, y2, y3, y4⟩, rfl, ?_, HRES.out.1, HRES.out.2⟩
 show (⟨y1.l, y2.l, y3.l, y4.l⟩ : Cfg) = _
 rw [EY1.out, EY2.out, EY3.out, EY4.out]
open Go Go.RowKit
theorem zjO (w : World) (F : Nat → Prop) (g : Nat) (s : Rd) (h : IsRR w F g s) (hsz : zav s ≤ 1000000000000) :
  Calls Tryz.prog 173 #[.pointer (some ⟨g, 0, none⟩)] w fun e w' => ∃ y : EntM, e = .returned (.tuple #[.agg (entA y), .bool (zbb s).2]) ∧ y.x = (zbb s).1 ∧ zau w' (zab w) y ∧ RRTo w F g (zb7 s).2 w' := by
 have hE : zb7 s = (⟨(za1 1073741824 s).1, (za1 255 (za1 1073741824 s).2).1, (zb1 131072 (za1 255 (za1 1073741824 s).2).2).1, (zat (zb1 131072 (za1 255 (za1 1073741824 s).2).2).2).1⟩, (zat (zb1 131072 (za1 255 (za1 1073741824 s).2).2).2).2) := rfl
 have hT : zbb s = if ((zb7 s).2.isSome && zbm (zb7 s).1) = true then ((zb7 s).1, true) else (entZ, false) := rfl
 have hD : ∀ a : Ent × Bool, zbb s = a → (zbb s).1 = a.1 ∧ (zbb s).2 = a.2 := fun a h => by rw [h]; exact ⟨rfl, rfl⟩
 obtain ⟨⟨qe, qd⟩, hqq⟩ : ∃ q, zbb s = q := ⟨_, rfl⟩
 rw [hqq, hE]
 rw [hqq, hE] at hT
 clear hD hqq hE
 have n1 := fun w1 h1 => zaF w1 F g s h1 1073741824 hsz
 have l1 := Nat.le_trans (zap 1073741824 s) hsz
 obtain ⟨⟨t, s1⟩, hq1⟩ : ∃ q, za1 1073741824 s = q := ⟨_, rfl⟩
 rw [hq1] at n1 l1
 simp only [hq1] at n1 l1 hT ⊢
 have n2 := fun w1 h1 => zaF w1 F g s1 h1 255 l1
 have m2 := zbR 255 s1 (by omega)
 have l2 := Nat.le_trans (zap 255 s1) l1
 obtain ⟨⟨k, s2⟩, hq2⟩ : ∃ q, za1 255 s1 = q := ⟨_, rfl⟩
 simp only [hq2] at n2 m2 l2 hT ⊢
 have n3 := fun w1 h1 => zhD w1 F g s2 h1 131072 l2
 have l3 := Nat.le_trans (zeS 131072 s2) l2
 have m3 := zdU 131072 (by omega) s2
 obtain ⟨⟨bl, s3⟩, hq3⟩ : ∃ q, zb1 131072 s2 = q := ⟨_, rfl⟩
 simp only [hq3] at n3 m3 l3 hT ⊢
 have n4 := fun w1 h1 => zfq w1 F g s3 h1 l3
 have hkw : k % 256 = k := by omega
 have hbl : bl.length ≤ 131072 := by omega
 have N1 := Lib.hid n1
 have N2 := Lib.hid n2
 have N3 := Lib.hid n3
 have N4 := Lib.hid n4
 have HT0 := Lib.hid hT
 clear hT n1 n2 n3 n4 hq1 hq2 hq3 l1 l2 l3 m3
 obtain ⟨R, hR⟩ : ∃ X, X = w.heap.size := ⟨_, rfl⟩
 obtain ⟨X, hX⟩ : ∃ Y, Y = w.heap.size + 1 := ⟨_, rfl⟩
 obtain ⟨Wa, hWa⟩ : ∃ W, W = w.alloc (.cells zE9A 87) := ⟨_, rfl⟩
 have pa : Nw w Wa := by rw [hWa]; exact (Fr.refl (fun _ => False) _).alloc _
 have ra : Blk Wa R 87 zE9A := by rw [hWa, hR]; exact Blk.new _ _ _
 have hza : Wa.heap.size = X := by rw [hWa, hX]; simp
 obtain ⟨W0, hW0⟩ : ∃ W, W = Wa.alloc (.cells zE9A 87) := ⟨_, rfl⟩
 have p0 : Nw Wa W0 := by rw [hW0]; exact (Fr.refl (fun _ => False) _).alloc _
 have x0 : Blk W0 X 87 zE9A := by rw [hW0, ← hza]; exact Blk.new _ _ _
 have r0 := ra.fr p0 (fun h => h)
 have Q0 : Nw w W0 := pa.tr p0
 have hgl := h.lt
 have hFl := h.out.2
 have hRX : R ≠ X := by omega
 have hgX : g ≠ X := by omega
 have hwR : w.heap.size ≤ R := by omega
 have hwX : w.heap.size ≤ X := by omega
 have hXl : X < W0.heap.size := x0.lt
 obtain ⟨KK, hKK⟩ : ∃ K : World → Prop, K = fun wz => Blk wz R 87 zE9A := ⟨_, rfl⟩
 have hKe : ∀ wz, KK wz → Blk wz R 87 zE9A := fun wz hk => by rw [hKK] at hk; exact hk
 have hKi : ∀ wz, Blk wz R 87 zE9A → KK wz := fun wz hk => by rw [hKK]; exact hk
 have st0 : RStR false w W0 F g X 87 KK s zE9A := ⟨h.fr Q0 (fun h => h) (fun _ _ h => h), x0, hKi _ r0, Nw.on Q0, hgX, fun hF => by have := hFl _ hF; omega, hwX, fun a c f hk => hKi _ ((hKe _ hk).fr f (by omega))⟩
 have HR := Lib.hid hR
 have HX := Lib.hid hX
 have HWa := Lib.hid hWa
 have HW0 := Lib.hid hW0
 clear hR hX hWa hW0 hza ra x0 r0 pa p0 hKK
 go_enter Tryz.func173, Tryz.ntmps173
 go_upto_region 2 with (fail)
 rw [← HX.out, ← HR.out, ← HWa.out, ← HW0.out]
 go_upto_region 3 with (go_at_call 101; refine (N1.out _ st0.rd).mono ?_; rintro e w1 ⟨rfl, h1⟩; have su1 := st0.callR h1; have c1 : w1.cell? ⟨X, 0, none⟩ = some (I64 0) := (by simpa using su1.x.cell 0); have f1 := su1.x.frozen 0)
 obtain ⟨W1, hW1⟩ : ∃ W, W = w1.setCell ⟨X, 0, none⟩ (I64 t) := ⟨_, rfl⟩
 have st1 : RStR false w W1 F g X 87 KK s1 #[I64 t, U8V 0, .slice none 0 0, .slice none 0 0, .slice none 0 0, .slice none 0 0, .slice none 0 0] := by rw [hW1]; exact su1.set_ 0 (I64 t)
 have HW1 := Lib.hid hW1
 rw [← HW1.out]
 clear hW1 su1 c1 f1 st0
 go_upto_region 4 with (go_at_call 101; refine (N2.out _ st1.rd).mono ?_; rintro e w2 ⟨rfl, h2⟩; have su2 := st1.callR h2; have c2 : w2.cell? ⟨X, 1, none⟩ = some (U8V 0) := (by simpa using su2.x.cell 1); have f2 := su2.x.frozen 1)
 obtain ⟨W2, hW2⟩ : ∃ W, W = w2.setCell ⟨X, 1, none⟩ (U8V k) := ⟨_, rfl⟩
 have st2 : RStR false w W2 F g X 87 KK s2 #[I64 t, U8V k, .slice none 0 0, .slice none 0 0, .slice none 0 0, .slice none 0 0, .slice none 0 0] := by rw [hW2]; exact su2.set_ 1 (U8V k)
 have HW2 := Lib.hid hW2
 rw [← HW2.out]
 clear hW2 su2 c2 f2 st1
 go_upto_region 5 with (go_at_call 175; refine (N3.out _ st2.rd).mono ?_; rintro e w3 ⟨A3, cp3, rfl, o3, h3, n3⟩; have su3 := st2.callR h3; have c3 : w3.cell? ⟨X, 2, none⟩ = some (.slice none 0 0) := (by simpa using su3.x.cell 2); have f3 := su3.x.frozen 2)
 obtain ⟨W3, hW3⟩ : ∃ W, W = w3.setCell ⟨X, 2, none⟩ (.slice A3 bl.length cp3) := ⟨_, rfl⟩
 have st3 : RStR false w W3 F g X 87 KK s3 #[I64 t, U8V k, .slice A3 bl.length cp3, .slice none 0 0, .slice none 0 0, .slice none 0 0, .slice none 0 0] := by rw [hW3]; exact su3.set_ 2 (.slice A3 bl.length cp3)
 have n3x : ∀ j, inA A3 j → X < j ∧ R < j := fun j hj => by have := n3 j hj; have := st2.x.lt; have := (hKe _ st2.k).lt; omega
 have o3 : zao w W3 5 1 zaw ⟨A3, cp3, bl⟩ := ⟨o3.fr (S := (· = X)) (by rw [hW3]; exact (Fr.refl (· = X) _).set1 _ _) (fun j hj e => by have := n3 j hj; have := st2.x.lt; omega), fun j hj => Nat.le_trans st2.fr.size (n3 j hj)⟩
 have HW3 := Lib.hid hW3
 rw [← HW3.out]
 clear hW3 su3 c3 f3 st2
 have bu3 := st3.x.lt
 have bR3 := (hKe _ st3.k).lt
 go_wp2_with fail
 refine (N4.out _ st3.rd).mono ?_
 rintro e w4 ⟨y4, rfl, ey4, oy4, h4⟩
 have su4 := st3.callR h4
 have th4 := Blk.there (l := [I64 t, U8V k, .slice A3 bl.length cp3, .slice none 0 0, .slice none 0 0, .slice none 0 0, .slice none 0 0]) su4.x 3 4 (by show 3 + 4 ≤ 7; omega)
 have one4 := zdi y4
 obtain ⟨W4, hW4⟩ : ∃ W, W = w4.setCells X 3 (cl9 y4) := ⟨_, rfl⟩
 have m4 : Fr (· = X) w4 W4 := by rw [hW4]; exact (Fr.refl (· = X) _).setCells _ _
 have x4 : Blk W4 X 87 (le9A t k A3 bl.length cp3 y4) := by rw [hW4]; exact Blk.setCells (l := [I64 t, U8V k, .slice A3 bl.length cp3, .slice none 0 0, .slice none 0 0, .slice none 0 0, .slice none 0 0]) su4.x 3 (cl9 y4)
 have r4 : Blk W4 R 87 zE9A := (hKe _ su4.k).fr m4 hRX
 have rd4 : IsRR W4 F g (zat s3).2 := IsRR.fr su4.rd m4 hgX (fun j hj e => by have := hFl j hj; omega)
 have f4 : Fr (· = g) w W4 := su4.fr.trans m4 (fun j hj => .inr (by omega))
 have own4 : zau W4 (fun j => w.heap.size ≤ j ∧ j ≠ X ∧ j ≠ R) ⟨t, k, ⟨A3, cp3, bl⟩, y4⟩ := by
  have sz3 := st3.fr.size
  refine ⟨by show 0 ≤ k ∧ k ≤ 255; omega, ?_, (oy4.mono (fun j hj _ => by unfold zab at hj; omega)).fr m4 (fun j hj e => hj.2.1 e)⟩
  have o4 := (o3.fr h4.2 (fun j hj e => by have := o3.base j hj; omega)).fr m4 (fun j hj e => by have := n3x j hj; omega)
  exact ⟨o4.own.sl.mono (fun j hj _ => by have h5 := n3x j hj; have h6 := o4.base j hj; omega), o4.own.cap_le⟩
 have HW4 := Lib.hid hW4
 have cf : W4.cell? ⟨g, 1, none⟩ = some (.bool (!(zat s3).2.isSome)) := by
  have rd5 : IsRR W4 F g (zat s3).2 := rd4
  revert rd5
  cases (zat s3).2 with
  | none => intro rd5; simpa using rd5.1.cell 1
  | some r => intro rd5; obtain ⟨A', cap', hb, _⟩ := rd5; simpa using hb.cell 1
 have hsze : zaW ⟨t, k, ⟨A3, cp3, bl⟩, y4⟩ := ⟨by show bl.length ≤ _; omega, zdJ ey4⟩
 have cj := rent W4 _ ⟨t, k, ⟨A3, cp3, bl⟩, y4⟩ own4 hsze
 have hyx : (⟨t, k, ⟨A3, cp3, bl⟩, y4⟩ : EntM).x = ⟨t, k, bl, (zat s3).1⟩ := by show (⟨t, k, bl, y4.x⟩ : Ent) = _; rw [ey4]
 rw [hyx] at cj
 obtain ⟨⟨cg, s4⟩, hq4⟩ : ∃ q, zat s3 = q := ⟨_, rfl⟩
 have hT := HT0.out
 simp only [hq4] at cj cf rd4 hyx hT
 have HQ4 := Lib.hid hq4
 obtain ⟨ok, hok⟩ : ∃ ok, ok = zbm ⟨t, k, bl, cg⟩ := ⟨_, rfl⟩
 rw [← hok] at cj
 rw [← hok] at hT
 have lx4 := Blk.cells_at (l := (le9L t k A3 bl.length cp3 y4)) x4 0
 clear hW4 su4 h4 oy4 ey4 st3 n3x n3 o3 hq4 hok
 have HT := Lib.hid hT
 have HYX := Lib.hid hyx
 clear hT hyx
 cases s4 with
 | none =>
  have ct : W4.cell? ⟨g, 1, none⟩ = some (.bool true) := cf
  have thz := Blk.there (l := zE9L) r4 0 7 (by show 0 + 7 ≤ 7; omega)
  have onez := zbo zcm
  obtain ⟨W5, hw5⟩ : ∃ W, W = W4.setCells R 0 zE9L := ⟨_, rfl⟩
  have m5 : Fr (· = R) W4 W5 := by rw [hw5]; exact (Fr.refl (· = R) _).setCells _ _
  have r5 : Blk W5 R 87 zE9A := by rw [hw5]; exact Blk.setCells (l := zE9L) r4 0 zE9L
  have own5 := zau.zero W5 (zab w)
  have res : zau W5 (zab w) zcm ∧ RRTo w F g none W5 := ⟨own5, rd4.fr m5 (fun e => by omega) (fun j hj e => by have := hFl j hj; omega), f4.trans m5 (fun j hj => .inr (by omega))⟩
  have HW5 := Lib.hid hw5
  have HRES := Lib.hid res
  clear own5 res hw5
  go_wp2_with (first | (refine wpList_store_mid rfl 45 _ _ rfl X 3 (cfgA y4) rfl rfl th4 (by kernel_rfl) one4 ?_; rw [← HW4.out]) | (refine wpList_store_mid rfl 87 _ _ rfl R 0 zE9A rfl rfl thz (by kernel_rfl) onez ?_; rw [← HW5.out]))
  refine bodyPost_ret (v := .tuple #[.agg zE9A, .bool false]) ?_ rfl ?_
  ·exact zan rfl _ _ R 87 _ (0, 0) _ _ rfl rfl r5 Tryz.underlying87 rfl (by kernel_rfl)
  obtain ⟨h1, h2⟩ := HRES.out
  have hT : (qe, qd) = (entZ, false) := HT.out
  obtain ⟨rfl, rfl⟩ := Prod.mk.inj hT
  exact ⟨zcm, rfl, rfl, h1, by rw [HQ4.out]; exact h2⟩
 | some r =>
  have ct : W4.cell? ⟨g, 1, none⟩ = some (.bool false) := cf
  go_wp2_with (first | (refine wpList_store_mid rfl 45 _ _ rfl X 3 (cfgA y4) rfl rfl th4 (by kernel_rfl) one4 ?_; rw [← HW4.out]) | (refine zaO (by kernel_rfl) 87 _ rfl X 0 rfl (le9L t k A3 bl.length cp3 y4) _ lx4 Tryz.underlying87 rfl (by kernel_rfl) ?_))
  refine cj.mono ?_
  rintro e v5 ⟨rfl, p5⟩
  have r4' := r4.fr p5 (fun h => h)
  have rd4' : IsRR v5 F g (some r) := IsRR.fr rd4 p5 (fun h => h) (fun _ _ h => h)
  have f4' : Fr (· = g) w v5 := f4.trans p5 (fun j hj => hj.elim)
  cases ok with
  | false =>
   have thz := Blk.there (l := zE9L) r4' 0 7 (by show 0 + 7 ≤ 7; omega)
   have onez := zbo zcm
   obtain ⟨W5, hw5⟩ : ∃ W, W = v5.setCells R 0 zE9L := ⟨_, rfl⟩
   have m5 : Fr (· = R) v5 W5 := by rw [hw5]; exact (Fr.refl (· = R) _).setCells _ _
   have r5 : Blk W5 R 87 zE9A := by rw [hw5]; exact Blk.setCells (l := zE9L) r4' 0 zE9L
   have own5 := zau.zero W5 (zab w)
   have res : zau W5 (zab w) zcm ∧ RRTo w F g (some r) W5 := ⟨own5, rd4'.fr m5 (fun e => by omega) (fun j hj e => by have := hFl j hj; omega), f4'.trans m5 (fun j hj => .inr (by omega))⟩
   have HW5 := Lib.hid hw5
   have HRES := Lib.hid res
   clear own5 res hw5
   go_wp2_with (refine wpList_store_mid rfl 87 _ _ rfl R 0 zE9A rfl rfl thz (by kernel_rfl) onez ?_; rw [← HW5.out])
   refine bodyPost_ret (v := .tuple #[.agg zE9A, .bool false]) ?_ rfl ?_
   ·exact zan rfl _ _ R 87 _ (0, 0) _ _ rfl rfl r5 Tryz.underlying87 rfl (by kernel_rfl)
   obtain ⟨h1, h2⟩ := HRES.out
   have hT : (qe, qd) = (entZ, false) := HT.out
   obtain ⟨rfl, rfl⟩ := Prod.mk.inj hT
   exact ⟨zcm, rfl, rfl, h1, by rw [HQ4.out]; exact h2⟩
  | true =>
   have x5 := x4.fr p5 (fun h => h)
   have lx5 := Blk.cells_at (l := (le9L t k A3 bl.length cp3 y4)) x5 0
   have own4' := own4.nw p5
   have thz := Blk.there (l := zE9L) r4' 0 7 (by show 0 + 7 ≤ 7; omega)
   have onez := zbo ⟨t, k, ⟨A3, cp3, bl⟩, y4⟩
   obtain ⟨W5, hw5⟩ : ∃ W, W = v5.setCells R 0 (le9L t k A3 bl.length cp3 y4) := ⟨_, rfl⟩
   have m5 : Fr (· = R) v5 W5 := by rw [hw5]; exact (Fr.refl (· = R) _).setCells _ _
   have r5 : Blk W5 R 87 (le9A t k A3 bl.length cp3 y4) := by rw [hw5]; exact Blk.setCells (l := zE9L) r4' 0 (le9L t k A3 bl.length cp3 y4)
   have own5 : zau W5 (zab w) ⟨t, k, ⟨A3, cp3, bl⟩, y4⟩ := (own4'.fr m5 (fun j hj e => hj.2.2 e)).mono (fun j hj _ => hj.1)
   have res : zau W5 (zab w) ⟨t, k, ⟨A3, cp3, bl⟩, y4⟩ ∧ RRTo w F g (some r) W5 := ⟨own5, rd4'.fr m5 (fun e => by omega) (fun j hj e => by have := hFl j hj; omega), f4'.trans m5 (fun j hj => .inr (by omega))⟩
   have HW5 := Lib.hid hw5
   have HRES := Lib.hid res
   clear own5 res hw5 own4'
   go_wp2_with (first | (refine za5 rfl 87 _ rfl X 0 rfl (le9L t k A3 bl.length cp3 y4) _ lx5 Tryz.underlying87 rfl (by kernel_rfl) ?_) | (refine wpList_store_mid rfl 87 _ _ rfl R 0 (le9A t k A3 bl.length cp3 y4) rfl rfl thz (by kernel_rfl) onez ?_; rw [← HW5.out]))
   refine bodyPost_ret (v := .tuple #[.agg (le9A t k A3 bl.length cp3 y4), .bool true]) ?_ rfl ?_
   ·exact zan rfl _ _ R 87 _ (0, 0) _ _ rfl rfl r5 Tryz.underlying87 rfl (by kernel_rfl)
   obtain ⟨h1, h2⟩ := HRES.out
   have hT : (qe, qd) = ((⟨t, k, bl, cg⟩ : Ent), true) := HT.out
   obtain ⟨rfl, rfl⟩ := Prod.mk.inj hT
   exact ⟨⟨t, k, ⟨A3, cp3, bl⟩, y4⟩, rfl, by rw [HYX.out], h1, by rw [HQ4.out]; exact h2⟩
end Go.Proofs.YtippdjaakcgeoaaGreat
