/- Lemmas of the walks: RrD, GdF, RgC. (Laid together by shake.py.) -/
import Derived.Test.YtippdjaakcgeoaaGreatEa17
import Derived.Test.YtippdjaakcgeoaaGreatEa19
set_option linter.unusedVariables false
set_option linter.unusedSimpArgs false
set_option maxRecDepth 100000
set_option maxHeartbeats 16000000
namespace Go.Proofs.YtippdjaakcgeoaaGreat
open Go Go.RowKit
theorem zgK (w : World) (F : Nat → Prop) (g : Nat) (s : Rd) (h : IsRR w F g s) (hsz : zav s ≤ 1000000000000) :
  Calls Tryz.prog 174 #[.pointer (some ⟨g, 0, none⟩)] w fun e w' => ∃ y : BasM, e = .returned (.tuple #[.agg (basA y), .bool (zbu s).2]) ∧ y.x = (zbu s).1 ∧ zaD w' (zab w) y.cfg ∧ RRTo w F g (zb8 s).2 w' := by
 have hE : zb8 s = (⟨(za1 1073741824 s).1, (za1 1073741824 (za1 1073741824 s).2).1, (zat (za1 1073741824 (za1 1073741824 s).2).2).1⟩, (zat (za1 1073741824 (za1 1073741824 s).2).2).2) := rfl
 have hT : zbu s = if ((zb8 s).2.isSome && zbi (zb8 s).1) = true then ((zb8 s).1, true) else (basZ, false) := rfl
 obtain ⟨⟨qe, qd⟩, hqq⟩ : ∃ q, zbu s = q := ⟨_, rfl⟩
 rw [hqq, hE]
 rw [hqq, hE] at hT
 clear hqq hE
 have n1 := fun w1 h1 => zaF w1 F g s h1 1073741824 hsz
 obtain ⟨⟨t, s1⟩, hq1⟩ : ∃ q, za1 1073741824 s = q := ⟨_, rfl⟩
 have l1 := Nat.le_trans (zap 1073741824 s) hsz
 simp only [hq1] at n1 l1 hT ⊢
 have n2 := fun w1 h1 => zaF w1 F g s1 h1 1073741824 l1
 obtain ⟨⟨u, s2⟩, hq2⟩ : ∃ q, za1 1073741824 s1 = q := ⟨_, rfl⟩
 have l2 := Nat.le_trans (zap 1073741824 s1) l1
 simp only [hq2] at n2 l2 hT ⊢
 have n3 := fun w1 h1 => zfq w1 F g s2 h1 l2
 have N1 := Lib.hid n1
 have N2 := Lib.hid n2
 have N3 := Lib.hid n3
 have HT0 := Lib.hid hT
 clear hT n1 n2 n3 hq1 hq2 l1 l2
 obtain ⟨R, hR⟩ : ∃ X, X = w.heap.size := ⟨_, rfl⟩
 obtain ⟨X, hX⟩ : ∃ Y, Y = w.heap.size + 1 := ⟨_, rfl⟩
 obtain ⟨Wa, hWa⟩ : ∃ W, W = w.alloc (.cells zB9A 47) := ⟨_, rfl⟩
 have pa : Nw w Wa := by rw [hWa]; exact (Fr.refl (fun _ => False) _).alloc _
 have ra : Blk Wa R 47 zB9A := by rw [hWa, hR]; exact Blk.new _ _ _
 have hza : Wa.heap.size = X := by rw [hWa, hX]; simp
 obtain ⟨W0, hW0⟩ : ∃ W, W = Wa.alloc (.cells zB9A 47) := ⟨_, rfl⟩
 have p0 : Nw Wa W0 := by rw [hW0]; exact (Fr.refl (fun _ => False) _).alloc _
 have x0 : Blk W0 X 47 zB9A := by rw [hW0, ← hza]; exact Blk.new _ _ _
 have r0 := ra.fr p0 (fun h => h)
 have Q0 : Nw w W0 := pa.tr p0
 have hgl := h.lt
 have hFl := h.out.2
 have hRX : R ≠ X := by omega
 have hgX : g ≠ X := by omega
 have hwR : w.heap.size ≤ R := by omega
 have hwX : w.heap.size ≤ X := by omega
 have hXl : X < W0.heap.size := x0.lt
 obtain ⟨KK, hKK⟩ : ∃ K : World → Prop, K = fun wz => Blk wz R 47 zB9A := ⟨_, rfl⟩
 have hKe : ∀ wz, KK wz → Blk wz R 47 zB9A := fun wz hk => by rw [hKK] at hk; exact hk
 have hKi : ∀ wz, Blk wz R 47 zB9A → KK wz := fun wz hk => by rw [hKK]; exact hk
 have st0 : RStR false w W0 F g X 47 KK s zB9A := ⟨h.fr Q0 (fun h => h) (fun _ _ h => h), x0, hKi _ r0, Nw.on Q0, hgX, fun hF => by have := hFl _ hF; omega, hwX, fun a c f hk => hKi _ ((hKe _ hk).fr f (by omega))⟩
 have HR := Lib.hid hR
 have HX := Lib.hid hX
 have HWa := Lib.hid hWa
 have HW0 := Lib.hid hW0
 clear hR hX hWa hW0 hza ra x0 r0 pa p0 hKK
 go_enter Tryz.func174, Tryz.ntmps174
 go_upto_region 2 with (fail)
 rw [← HX.out, ← HR.out, ← HWa.out, ← HW0.out]
 go_upto_region 3 with (go_at_call 101; refine (N1.out _ st0.rd).mono ?_; rintro e w1 ⟨rfl, h1⟩; have su1 := st0.callR h1; have c1 : w1.cell? ⟨X, 0, none⟩ = some (I64 0) := (by simpa using su1.x.cell 0); have f1 := su1.x.frozen 0)
 obtain ⟨W1, hW1⟩ : ∃ W, W = w1.setCell ⟨X, 0, none⟩ (I64 t) := ⟨_, rfl⟩
 have st1 : RStR false w W1 F g X 47 KK s1 #[I64 t, I64 0, .slice none 0 0, .slice none 0 0, .slice none 0 0, .slice none 0 0] := by rw [hW1]; exact su1.set_ 0 (I64 t)
 have HW1 := Lib.hid hW1
 rw [← HW1.out]
 clear hW1 su1 c1 f1 st0
 go_upto_region 4 with (go_at_call 101; refine (N2.out _ st1.rd).mono ?_; rintro e w2 ⟨rfl, h2⟩; have su2 := st1.callR h2; have c2 : w2.cell? ⟨X, 1, none⟩ = some (I64 0) := (by simpa using su2.x.cell 1); have f2 := su2.x.frozen 1)
 obtain ⟨W2, hW2⟩ : ∃ W, W = w2.setCell ⟨X, 1, none⟩ (I64 u) := ⟨_, rfl⟩
 have st2 : RStR false w W2 F g X 47 KK s2 #[I64 t, I64 u, .slice none 0 0, .slice none 0 0, .slice none 0 0, .slice none 0 0] := by rw [hW2]; exact su2.set_ 1 (I64 u)
 have HW2 := Lib.hid hW2
 rw [← HW2.out]
 clear hW2 su2 c2 f2 st1
 have bu3 := st2.x.lt
 have bR3 := (hKe _ st2.k).lt
 go_wp2_with fail
 refine (N3.out _ st2.rd).mono ?_
 rintro e w4 ⟨y4, rfl, ey4, oy4, h4⟩
 have su4 := st2.callR h4
 have th4 := Blk.there (l := [I64 t, I64 u, .slice none 0 0, .slice none 0 0, .slice none 0 0, .slice none 0 0]) su4.x 2 4 (by show 2 + 4 ≤ 6; omega)
 have one4 := zdi y4
 obtain ⟨W4, hW4⟩ : ∃ W, W = w4.setCells X 2 (cl9 y4) := ⟨_, rfl⟩
 have m4 : Fr (· = X) w4 W4 := by rw [hW4]; exact (Fr.refl (· = X) _).setCells _ _
 have x4 : Blk W4 X 47 (lb9A t u y4) := by rw [hW4]; exact Blk.setCells (l := [I64 t, I64 u, .slice none 0 0, .slice none 0 0, .slice none 0 0, .slice none 0 0]) su4.x 2 (cl9 y4)
 have r4 : Blk W4 R 47 zB9A := (hKe _ su4.k).fr m4 hRX
 have rd4 : IsRR W4 F g (zat s2).2 := IsRR.fr su4.rd m4 hgX (fun j hj e => by have := hFl j hj; omega)
 have f4 : Fr (· = g) w W4 := su4.fr.trans m4 (fun j hj => .inr (by omega))
 have sz3 := st2.fr.size
 have own4 : zaD W4 (fun j => w.heap.size ≤ j ∧ j ≠ X ∧ j ≠ R) y4 := (oy4.mono (fun j hj _ => by unfold zab at hj; omega)).fr m4 (fun j hj e => hj.2.1 e)
 have HW4 := Lib.hid hW4
 have cf : W4.cell? ⟨g, 1, none⟩ = some (.bool (!(zat s2).2.isSome)) := by
  have rd5 : IsRR W4 F g (zat s2).2 := rd4
  revert rd5
  cases (zat s2).2 with
  | none => intro rd5; simpa using rd5.1.cell 1
  | some r => intro rd5; obtain ⟨A', cap', hb, _⟩ := rd5; simpa using hb.cell 1
 have cj := rbas W4 _ ⟨t, u, y4⟩ own4 (zdJ ey4)
 have hyx : (⟨t, u, y4⟩ : BasM).x = ⟨t, u, (zat s2).1⟩ := by show (⟨t, u, y4.x⟩ : Bas) = _; rw [ey4]
 rw [hyx] at cj
 obtain ⟨⟨cg, s4⟩, hq4⟩ : ∃ q, zat s2 = q := ⟨_, rfl⟩
 have hT := HT0.out
 simp only [hq4] at cj cf rd4 hyx hT
 have HQ4 := Lib.hid hq4
 obtain ⟨ok, hok⟩ : ∃ ok, ok = zbi ⟨t, u, cg⟩ := ⟨_, rfl⟩
 rw [← hok] at cj
 rw [← hok] at hT
 have lx4 := Blk.cells_at (l := (lb9L t u y4)) x4 0
 clear hW4 su4 h4 oy4 ey4 st2 hq4 hok
 have HT := Lib.hid hT
 have HYX := Lib.hid hyx
 clear hT hyx
 cases s4 with
 | none =>
  have ct : W4.cell? ⟨g, 1, none⟩ = some (.bool true) := cf
  have thz := Blk.there (l := zB9L) r4 0 6 (by show 0 + 6 ≤ 6; omega)
  have onez := zcY zcP
  obtain ⟨W5, hw5⟩ : ∃ W, W = W4.setCells R 0 zB9L := ⟨_, rfl⟩
  have m5 : Fr (· = R) W4 W5 := by rw [hw5]; exact (Fr.refl (· = R) _).setCells _ _
  have r5 : Blk W5 R 47 zB9A := by rw [hw5]; exact Blk.setCells (l := zB9L) r4 0 zB9L
  have own5 := zaD.zero W5 (zab w)
  have res : zaD W5 (zab w) zcS ∧ RRTo w F g none W5 := ⟨own5, rd4.fr m5 (fun e => by omega) (fun j hj e => by have := hFl j hj; omega), f4.trans m5 (fun j hj => .inr (by omega))⟩
  have HW5 := Lib.hid hw5
  have HRES := Lib.hid res
  clear own5 res hw5
  go_wp2_with (first | (refine wpList_store_mid rfl 45 _ _ rfl X 2 (cfgA y4) rfl rfl th4 (by kernel_rfl) one4 ?_; rw [← HW4.out]) | (refine wpList_store_mid rfl 47 _ _ rfl R 0 zB9A rfl rfl thz (by kernel_rfl) onez ?_; rw [← HW5.out]))
  refine bodyPost_ret (v := .tuple #[.agg zB9A, .bool false]) ?_ rfl ?_
  ·exact zan rfl _ _ R 47 _ (0, 0) _ _ rfl rfl r5 Tryz.underlying47 rfl (by kernel_rfl)
  obtain ⟨h1, h2⟩ := HRES.out
  have hT : (qe, qd) = (basZ, false) := HT.out
  obtain ⟨rfl, rfl⟩ := Prod.mk.inj hT
  exact ⟨zcP, rfl, rfl, h1, by rw [HQ4.out]; exact h2⟩
 | some r =>
  have ct : W4.cell? ⟨g, 1, none⟩ = some (.bool false) := cf
  go_wp2_with (first | (refine wpList_store_mid rfl 45 _ _ rfl X 2 (cfgA y4) rfl rfl th4 (by kernel_rfl) one4 ?_; rw [← HW4.out]) | (refine zaO (by kernel_rfl) 47 _ rfl X 0 rfl (lb9L t u y4) _ lx4 Tryz.underlying47 rfl (by kernel_rfl) ?_))
  refine cj.mono ?_
  rintro e v5 ⟨rfl, p5⟩
  have r4' := r4.fr p5 (fun h => h)
  have rd4' : IsRR v5 F g (some r) := IsRR.fr rd4 p5 (fun h => h) (fun _ _ h => h)
  have f4' : Fr (· = g) w v5 := f4.trans p5 (fun j hj => hj.elim)
  cases ok with
  | false =>
   have thz := Blk.there (l := zB9L) r4' 0 6 (by show 0 + 6 ≤ 6; omega)
   have onez := zcY zcP
   obtain ⟨W5, hw5⟩ : ∃ W, W = v5.setCells R 0 zB9L := ⟨_, rfl⟩
   have m5 : Fr (· = R) v5 W5 := by rw [hw5]; exact (Fr.refl (· = R) _).setCells _ _
   have r5 : Blk W5 R 47 zB9A := by rw [hw5]; exact Blk.setCells (l := zB9L) r4' 0 zB9L
   have own5 := zaD.zero W5 (zab w)
   have res : zaD W5 (zab w) zcS ∧ RRTo w F g (some r) W5 := ⟨own5, rd4'.fr m5 (fun e => by omega) (fun j hj e => by have := hFl j hj; omega), f4'.trans m5 (fun j hj => .inr (by omega))⟩
   have HW5 := Lib.hid hw5
   have HRES := Lib.hid res
   clear own5 res hw5
   go_wp2_with (refine wpList_store_mid rfl 47 _ _ rfl R 0 zB9A rfl rfl thz (by kernel_rfl) onez ?_; rw [← HW5.out])
   refine bodyPost_ret (v := .tuple #[.agg zB9A, .bool false]) ?_ rfl ?_
   ·exact zan rfl _ _ R 47 _ (0, 0) _ _ rfl rfl r5 Tryz.underlying47 rfl (by kernel_rfl)
   obtain ⟨h1, h2⟩ := HRES.out
   have hT : (qe, qd) = (basZ, false) := HT.out
   obtain ⟨rfl, rfl⟩ := Prod.mk.inj hT
   exact ⟨zcP, rfl, rfl, h1, by rw [HQ4.out]; exact h2⟩
  | true =>
   have x5 := x4.fr p5 (fun h => h)
   have lx5 := Blk.cells_at (l := (lb9L t u y4)) x5 0
   have own4' := own4.nw p5
   have thz := Blk.there (l := zB9L) r4' 0 6 (by show 0 + 6 ≤ 6; omega)
   have onez := zcY ⟨t, u, y4⟩
   obtain ⟨W5, hw5⟩ : ∃ W, W = v5.setCells R 0 (lb9L t u y4) := ⟨_, rfl⟩
   have m5 : Fr (· = R) v5 W5 := by rw [hw5]; exact (Fr.refl (· = R) _).setCells _ _
   have r5 : Blk W5 R 47 (lb9A t u y4) := by rw [hw5]; exact Blk.setCells (l := zB9L) r4' 0 (lb9L t u y4)
   have own5 : zaD W5 (zab w) y4 := (own4'.fr m5 (fun j hj e => hj.2.2 e)).mono (fun j hj _ => hj.1)
   have res : zaD W5 (zab w) y4 ∧ RRTo w F g (some r) W5 := ⟨own5, rd4'.fr m5 (fun e => by omega) (fun j hj e => by have := hFl j hj; omega), f4'.trans m5 (fun j hj => .inr (by omega))⟩
   have HW5 := Lib.hid hw5
   have HRES := Lib.hid res
   clear own5 res hw5 own4'
   go_wp2_with (first | (refine za5 rfl 47 _ rfl X 0 rfl (lb9L t u y4) _ lx5 Tryz.underlying47 rfl (by kernel_rfl) ?_) | (refine wpList_store_mid rfl 47 _ _ rfl R 0 (lb9A t u y4) rfl rfl thz (by kernel_rfl) onez ?_; rw [← HW5.out]))
   refine bodyPost_ret (v := .tuple #[.agg (lb9A t u y4), .bool true]) ?_ rfl ?_
   ·exact zan rfl _ _ R 47 _ (0, 0) _ _ rfl rfl r5 Tryz.underlying47 rfl (by kernel_rfl)
   obtain ⟨h1, h2⟩ := HRES.out
   have hT : (qe, qd) = ((⟨t, u, cg⟩ : Bas), true) := HT.out
   obtain ⟨rfl, rfl⟩ := Prod.mk.inj hT
   exact ⟨⟨t, u, y4⟩, rfl, by rw [HYX.out], h1, by rw [HQ4.out]; exact h2⟩
open Go Go.RowKit
def NsRelG (w : World) (F D : Nat → Prop) (g sb n : Nat) (P : List Int → World → Prop) (s : Rd) (i : Value) (wr : World) : Prop :=
 ∃ k : Nat, k ≤ n ∧ i = .int .i64 k ∧ IsRd wr F g (rdNs 1073741824 k s).2 ∧ P (rdNs 1073741824 k s).1 wr ∧ Fr (fun b => b = g ∨ D b) w wr ∧ Blk wr sb 148 #[.pointer (some ⟨g, 0, none⟩)]
theorem zhT (w : World) (F D : Nat → Prop) (g : Nat) (s : Rd) (h : IsRd w F g s) (ps : List (Nat × Nat)) (P : List Int → World → Prop) (hP : P [] w) (hst : ∀ l a c, Fr (· = g) a c → P l a → P l c)
  (hc : ∀ k (h : k < ps.length) l wr, l.length = k → P l wr → (∃ v, wr.cell? ⟨ps[k].1, ps[k].2, none⟩ = some v) ∧ wr.frozen? ⟨ps[k].1, ps[k].2, none⟩ = false ∧ ∀ z, P (l ++ [z]) (wr.setCell ⟨ps[k].1, ps[k].2, none⟩ (I64 z)))
  (hD : ∀ p ∈ ps, D p.1) (hlt : ∀ k, D k → k < w.heap.size) (hgD : ¬ D g) (hF : ∀ k, F k → ¬ D k) (F2 : Nat → Prop) (A : Option Addr) (c : Nat)
  (hs : Sl w F2 A (ps.map fun p => ptrV p.1 p.2)) (hF2 : ∀ k, F2 k → ¬ (k = g ∨ D k)) (hol : ps.length ≤ 1000) :
  Calls Tryz.prog 165 #[.agg #[.pointer (some ⟨g, 0, none⟩)], .slice A ps.length c] w fun e w' => e = .returned (.tuple #[]) ∧ IsRd w' F g (rdNs 1073741824 ps.length s).2 ∧ P (rdNs 1073741824 ps.length s).1 w' ∧ Fr (fun b => b = g ∨ D b) w w' := by
 have hgl := h.lt
 obtain ⟨n, hn⟩ : ∃ n, ps.length = n := ⟨_, rfl⟩
 have q0 : Nw w (w.alloc (.cells #[.pointer (some ⟨g, 0, none⟩)] 148)) := (Fr.refl _ w).alloc _
 have hsb := Blk.new w 148 #[.pointer (some ⟨g, 0, none⟩)]
 have h0 := h.fr q0 (fun h => h) (fun _ _ h => h)
 have x0 := hst _ _ _ (Nw.on q0) hP
 rw [hn] at hol ⊢
 have HN := Lib.hid hn
 have HC := Lib.hid hc
 have HST := Lib.hid hst
 have HD := Lib.hid hD
 have HLT := Lib.hid hlt
 clear hn hc hst hD hlt hP
 go_enter Tryz.func165, Tryz.ntmps165
 go_wp2_with fail
 go_loopw [8] (fun i wx => NsRelG w F D g w.heap.size n P s i wx) (fun i _ => n - (intOf i).toNat)
 case atStart => exact ⟨0, Nat.zero_le _, rfl, h0, x0, Nw.on q0, hsb⟩
 case round =>
  clear hsb h0 x0 q0
  obtain ⟨k, hk, rfl, hr, hb, hf, hsb⟩ := hrel
  have hn := HN.out
  by_cases hlt : k < n
  ·have hlo : k < ps.length := by omega
   obtain ⟨B, of, rfl, hFB, hcell⟩ := (hs.fr hf hF2).get hlo
   have hnk := fun w1 h1 => zb5 w1 F g (rdNs 1073741824 k s).2 h1 1073741824
   have hsucc : rdNs 1073741824 (k + 1) s = ((rdNs 1073741824 k s).1 ++ [(za1 1073741824 (rdNs 1073741824 k s).2).1], (za1 1073741824 (rdNs 1073741824 k s).2).2) := rfl
   have hlen := zeg 1073741824 k s
   have hck := fun wr h => HC.out k hlo (rdNs 1073741824 k s).1 wr hlen h
   have hDk : D ps[k].1 := HD.out _ (List.getElem_mem hlo)
   have hXl := HLT.out _ hDk
   generalize (rdNs 1073741824 k s).1 = C at hb hsucc hck
   generalize za1 1073741824 (rdNs 1073741824 k s).2 = q at hnk hsucc
   generalize (rdNs 1073741824 k s).2 = sk at hr hnk
   obtain ⟨z, s2⟩ := q
   simp only at hnk hsucc
   have HS := Lib.hid hsucc
   generalize ps[k] = po at hcell hck hDk hXl
   obtain ⟨X, o⟩ := po
   simp only at hcell hck hDk hXl
   have HCK := Lib.hid hck
   have HDK := Lib.hid hDk
   clear hsucc hlen hck hDk
   have hsc := hsb.cell 0
   simp at hsc
   go_wp2_with fail
   refine (hnk _ hr).mono ?_
   rintro e w1 ⟨rfl, h1⟩
   have hb1 := HST.out _ _ _ h1.2 hb
   obtain ⟨⟨old, c1⟩, f1, hset⟩ := HCK.out _ hb1
   have hb2 := Lib.hid (hset z)
   have hsb1 := hsb.fr h1.2 (by omega)
   clear hset hb1 hb
   go_wp2_with fail
   go_roundw
   case rel =>
    have hs2 := HS.out
    have hDk := HDK.out
    refine ⟨k + 1, by omega, by go_num, ?_, ?_, ?_, ?_⟩
    ·rw [hs2]
     exact h1.1.fr (S := (· = X)) ((Fr.refl (· = X) w1).setCell (p := ⟨X, o, none⟩) (.inl rfl) _) (fun e => hgD (e ▸ hDk)) (fun j hj e => hF j hj (e ▸ hDk))
    ·rw [hs2]
     exact hb2.out
    ·exact (hf.trans h1.2 (fun j hj => .inl (.inl hj))).setCell (p := ⟨X, o, none⟩) (.inl (.inr hDk)) _
    ·exact hsb1.far (show w.heap.size ≠ X by omega) _
   case measure => simp [intOf]; omega
  ·have hkn : k = n := by omega
   subst hkn
   go_wp2_with fail
   go_end0
   exact ⟨rfl, hr, hb, hf⟩
def zfr (kb X : Nat) (t : TypeId) (cs : Array Value) (os : List Nat) (l : List Int) (w : World) : Prop :=
 Blk w kb 3 #[I64 (l.getD 0 0)] ∧ Blk w X t (zcR cs (os.take (l.length - 1)) l.tail)
theorem zfr.step {kb X : Nat} {t : TypeId} {cs : Array Value} {os : List Nat} (hne : kb ≠ X) (ho : ∀ o ∈ os, o < cs.size) : ∀ k (h : k < ((kb, 0) :: os.map (fun o => (X, o))).length) l wr, l.length = k → zfr kb X t cs os l wr →
  (∃ v, wr.cell? ⟨((kb, 0) :: os.map (fun o => (X, o)))[k].1, ((kb, 0) :: os.map (fun o => (X, o)))[k].2, none⟩ = some v) ∧ wr.frozen? ⟨((kb, 0) :: os.map (fun o => (X, o)))[k].1, ((kb, 0) :: os.map (fun o => (X, o)))[k].2, none⟩ = false ∧
   ∀ z, zfr kb X t cs os (l ++ [z]) (wr.setCell ⟨((kb, 0) :: os.map (fun o => (X, o)))[k].1, ((kb, 0) :: os.map (fun o => (X, o)))[k].2, none⟩ (I64 z)) := by
 intro k h l wr hl hh
 cases k with
 | zero =>
  obtain rfl := List.length_eq_zero_iff.1 hl
  refine ⟨⟨_, hh.1.cell 0⟩, hh.1.frozen 0, fun z => ⟨hh.1.set_ 0 (I64 z), hh.2.far hne.symm _⟩⟩
 | succ k =>
  obtain ⟨a, l, rfl⟩ : ∃ a l', l = a :: l' := by
   cases l with
   | nil => cases hl
   | cons a l => exact ⟨a, l, rfl⟩
  have hk : k < os.length := by simpa using h
  have hl' : l.length = k := by simpa using hl
  have hok := ho _ (List.getElem_mem hk)
  have e : ((kb, 0) :: os.map (fun o => (X, o)))[k + 1] = (X, os[k]) := by simp
  rw [e]
  have h2 : Blk wr X t (zcR cs (os.take k) l) := by rw [← hl']; exact hh.2
  refine ⟨⟨_, by rw [h2.cell]; rw [Array.getElem?_eq_getElem (by rw [zgq]; exact hok)]⟩, h2.frozen _, fun z => ⟨hh.1.far hne _, ?_⟩⟩
  have h3 := h2.set_ os[k] (I64 z)
  rw [← zgv _ _ (by rw [List.length_take]; omega), ← List.take_succ_eq_append_getElem hk] at h3
  show Blk _ X t (zcR cs (os.take ((a :: l ++ [z]).length - 1)) (l ++ [z]))
  rw [show (a :: l ++ [z]).length - 1 = k + 1 by simp; omega]
  exact h3
open Go Go.RowKit
theorem zkz (x : LetM) : zaE x.x = (zbA 1 8 [x.kind] && (zbA 0 4 [x.group] && (zbA 1 5 [x.src, x.dst] && (zbA 0 1073741824 [x.term, x.index, x.logt, x.commit, x.size, x.at_, x.base.index, x.base.term] && (zbA 0 4611686018427387903 [x.tag] && (decide (x.ents.l.length ≤ 30) && (decide (x.bytes.l.length ≤ 131072) && (zby x.base.cfg.x && x.ents.l.all zbB)))))))) := by
 have he : (x.ents.l.map EntM.x).all zbm = x.ents.l.all zbB := by rw [List.all_map]; rfl
 rw [Bool.eq_iff_iff]
 unfold zaE zbi zbd zbA wOk
 simp only [he, List.length_map, List.all_cons, List.all_nil, Bool.and_true, Bool.and_eq_true, decide_eq_true_eq]
 constructor
 ·rintro ⟨⟨h1, h2, h3, h4, h5, h6⟩, h7, ⟨h8, h9, h10, h11⟩, ⟨h12, h13, h14, h15, h16⟩, h17⟩
  exact ⟨h8, h9, ⟨h10, h11⟩, ⟨h1, h2, h3, h4, h5, h6, h14, h15⟩, h7, h12, h13, h16, h17⟩
 ·rintro ⟨h8, h9, ⟨h10, h11⟩, ⟨h1, h2, h3, h4, h5, h6, h14, h15⟩, h7, h12, h13, h16, h17⟩
  exact ⟨⟨h1, h2, h3, h4, h5, h6⟩, h7, ⟨h8, h9, h10, h11⟩, ⟨h12, h13, h14, h15, h16⟩, h17⟩
def zji (w : World) (l : List LetM) (i : Value) (wr : World) : Prop := ∃ k : Nat, k ≤ l.length ∧ i = .int .i64 k ∧ (∀ j (h : j < l.length), j < k → zaE (l[j]).x = true) ∧ Nw w wr
theorem zj1 {l : List LetM} {k : Nat} (hk : k < l.length) (h : zaE (l[k]).x = false) : zbF (l.map LetM.x) = false := by
 unfold zbF
 rw [List.all_eq_false]
 exact ⟨(l[k]).x, List.mem_map.2 ⟨_, List.getElem_mem hk, rfl⟩, by rw [h]; simp⟩
theorem zid {l : List LetM} (h : ∀ j (h : j < l.length), zaE (l[j]).x = true) : zbF (l.map LetM.x) = true := by
 unfold zbF
 refine List.all_eq_true.2 fun x hx => ?_
 obtain ⟨y, hy, rfl⟩ := List.mem_map.1 hx
 obtain ⟨j, hj, rfl⟩ := List.mem_iff_getElem.1 hy
 exact h j hj
theorem zd3 (w : World) (F : Nat → Prop) (A : Option Addr) (c : Nat) (l : List LetM) (h : Sl w F A (zai l)) (he : ∀ x ∈ l, za3 w F x) (hz : ∀ x ∈ l, za8 x) (hsz : l.length ≤ 1000000000) :
  Calls Tryz.prog 35 #[.slice A l.length c] w fun e w' => e = .returned (.bool (zbF (l.map LetM.x))) ∧ Nw w w' := by
 have HE := Lib.hid he
 have HZ := Lib.hid hz
 clear he hz
 go_enter Tryz.func35, Tryz.ntmps35
 go_wp2_with fail
 go_loopw [7] (fun i wr => zji w l i wr) (fun i _ => l.length - (intOf i).toNat)
 case atStart => exact ⟨0, Nat.zero_le _, rfl, fun _ _ h => by omega, Fr.refl _ _⟩
 case round =>
  obtain ⟨k, hk, rfl, hb, hq⟩ := hrel
  have HB := Lib.hid hb
  clear hb
  by_cases hlt : k < l.length
  ·obtain ⟨b, o, rfl, _, _, hc⟩ := (h.fr hq (fun _ _ h => h)).let_ hlt
   have hi0 : (k : Int) < (l.length : Int) := by omega
   have hx := (HE.out _ (List.getElem_mem hlt)).nw hq
   have hz := HZ.out _ (List.getElem_mem hlt)
   have hnx : zaE (l[k]).x = true → zji w l (.int .i64 ((k : Int) + 1)) wr := fun hok => ⟨k + 1, hlt, by go_num, fun j hj hjk => by
    by_cases e : j < k
    ·exact HB.out j hj e
    ·obtain rfl : j = k := by omega
     exact hok, hq⟩
   have hno : zaE (l[k]).x = false → zbF (l.map LetM.x) = false := zj1 hlt
   obtain ⟨x, hxe⟩ : ∃ x, l[k] = x := ⟨_, rfl⟩
   rw [hxe] at hc hx hz hnx hno
   have hparts := zkz x
   obtain ⟨ok, hok⟩ : ∃ d, zaE x.x = d := ⟨_, rfl⟩
   rw [hok] at hparts hnx hno
   obtain ⟨G, hG⟩ : ∃ G, G = wr.heap.size := ⟨_, rfl⟩
   obtain ⟨V0, hV0⟩ : ∃ V, V = wr.alloc (.cells zL9A 50) := ⟨_, rfl⟩
   have qv0 : Nw wr V0 := by rw [hV0]; exact (Fr.refl (fun _ => False) wr).alloc _
   have g0 : Blk V0 G 50 zL9A := by rw [hV0, hG]; exact Blk.new _ _ _
   obtain ⟨V1, hV1⟩ : ∃ V, V = V0.setCells G 0 (letL x) := ⟨_, rfl⟩
   have g1 : Blk V1 G 50 (letA x) := by rw [hV1]; exact Blk.setCells (l := zL9L) g0 0 (letL x)
   have m1 : Fr (· = G) V0 V1 := by rw [hV1]; exact (Fr.refl (· = G) _).setCells _ _
   have qv1 : Nw wr V1 := qv0.new m1 (fun b hb => by omega)
   have hth := Blk.there (l := zL9L) g0 0 20 (by show 0 + 20 ≤ 20; omega)
   have hone := zbc x
   have z1 : ∀ w1, Nw V1 w1 → Calls Tryz.prog 77 #[I64 1, I64 8, .slice (some ⟨w1.heap.size, 0, none⟩) 1 1] (w1.alloc (.cells #[I64 x.kind] 3)) fun e w' => e = .returned (.bool (zbA 1 8 [x.kind])) ∧ Nw w1 w' := fun w1 f => (zdB (w1.alloc (.cells #[I64 x.kind] 3)) (· = w1.heap.size) _ 1 [x.kind] 1 8 (zaI w1 3 [I64 x.kind] _ rfl) (by show 1 ≤ 1000000000; omega)).mono fun e w' h => ⟨h.1, ((Fr.refl (fun _ => False) w1).alloc _).tr h.2⟩
   have z2 : ∀ w1, Nw V1 w1 → Calls Tryz.prog 77 #[I64 0, I64 4, .slice (some ⟨w1.heap.size, 0, none⟩) 1 1] (w1.alloc (.cells #[I64 x.group] 3)) fun e w' => e = .returned (.bool (zbA 0 4 [x.group])) ∧ Nw w1 w' := fun w1 f => (zdB (w1.alloc (.cells #[I64 x.group] 3)) (· = w1.heap.size) _ 1 [x.group] 0 4 (zaI w1 3 [I64 x.group] _ rfl) (by show 1 ≤ 1000000000; omega)).mono fun e w' h => ⟨h.1, ((Fr.refl (fun _ => False) w1).alloc _).tr h.2⟩
   have z3 : ∀ w1, Nw V1 w1 → Calls Tryz.prog 77 #[I64 1, I64 5, .slice (some ⟨w1.heap.size, 0, none⟩) 2 2] (w1.alloc (.cells #[I64 x.src, I64 x.dst] 3)) fun e w' => e = .returned (.bool (zbA 1 5 [x.src, x.dst])) ∧ Nw w1 w' := fun w1 f => (zdB (w1.alloc (.cells #[I64 x.src, I64 x.dst] 3)) (· = w1.heap.size) _ 2 [x.src, x.dst] 1 5 (zaI w1 3 [I64 x.src, I64 x.dst] _ rfl) (by show 2 ≤ 1000000000; omega)).mono fun e w' h => ⟨h.1, ((Fr.refl (fun _ => False) w1).alloc _).tr h.2⟩
   have z4 : ∀ w1, Nw V1 w1 → Calls Tryz.prog 77 #[I64 0, I64 1073741824, .slice (some ⟨w1.heap.size, 0, none⟩) 8 8] (w1.alloc (.cells #[I64 x.term, I64 x.index, I64 x.logt, I64 x.commit, I64 x.size, I64 x.at_, I64 x.base.index, I64 x.base.term] 3)) fun e w' => e = .returned (.bool (zbA 0 1073741824 [x.term, x.index, x.logt, x.commit, x.size, x.at_, x.base.index, x.base.term])) ∧ Nw w1 w' := fun w1 f => (zdB (w1.alloc (.cells #[I64 x.term, I64 x.index, I64 x.logt, I64 x.commit, I64 x.size, I64 x.at_, I64 x.base.index, I64 x.base.term] 3)) (· = w1.heap.size) _ 8 [x.term, x.index, x.logt, x.commit, x.size, x.at_, x.base.index, x.base.term] 0 1073741824 (zaI w1 3 [I64 x.term, I64 x.index, I64 x.logt, I64 x.commit, I64 x.size, I64 x.at_, I64 x.base.index, I64 x.base.term] _ rfl) (by show 8 ≤ 1000000000; omega)).mono fun e w' h => ⟨h.1, ((Fr.refl (fun _ => False) w1).alloc _).tr h.2⟩
   have z5 : ∀ w1, Nw V1 w1 → Calls Tryz.prog 77 #[I64 0, I64 4611686018427387903, .slice (some ⟨w1.heap.size, 0, none⟩) 1 1] (w1.alloc (.cells #[I64 x.tag] 3)) fun e w' => e = .returned (.bool (zbA 0 4611686018427387903 [x.tag])) ∧ Nw w1 w' := fun w1 f => (zdB (w1.alloc (.cells #[I64 x.tag] 3)) (· = w1.heap.size) _ 1 [x.tag] 0 4611686018427387903 (zaI w1 3 [I64 x.tag] _ rfl) (by show 1 ≤ 1000000000; omega)).mono fun e w' h => ⟨h.1, ((Fr.refl (fun _ => False) w1).alloc _).tr h.2⟩
   have z6 : ∀ w1, Nw V1 w1 → Calls Tryz.prog 78 #[.agg (cfgA x.base.cfg)] w1 fun e w' => e = .returned (.bool (zby x.base.cfg.x)) ∧ Nw w1 w' := fun w1 f => jcfg w1 F x.base.cfg (hx.cfg.nw (qv1.tr f)) hz.cfg
   have z7 : ∀ w1, Nw V1 w1 → Calls Tryz.prog 79 #[.slice x.ents.a x.ents.l.length x.ents.c, .func (.func 80) #[] #[]] w1 fun e w' => e = .returned (.bool (!x.ents.l.all zbB)) ∧ Nw w1 w' := fun w1 f => zhM w1 F _ _ x.ents.l (hx.ents.nw (qv1.tr f)).sl (by have := hz.ents; omega) (fun e he => (hx.each e he).nw (qv1.tr f)) hz.each
   obtain ⟨d6, hd6⟩ : ∃ d, zby x.base.cfg.x = d := ⟨_, rfl⟩
   obtain ⟨d7, hd7⟩ : ∃ d, x.ents.l.all zbB = d := ⟨_, rfl⟩
   simp only [hd6] at z6
   simp only [hd7] at z7
   obtain ⟨d1, hd1⟩ : ∃ d, zbA 1 8 [x.kind] = d := ⟨_, rfl⟩
   simp only [hd1] at z1
   have Z1 := Lib.hid z1
   obtain ⟨d2, hd2⟩ : ∃ d, zbA 0 4 [x.group] = d := ⟨_, rfl⟩
   simp only [hd2] at z2
   have Z2 := Lib.hid z2
   obtain ⟨d3, hd3⟩ : ∃ d, zbA 1 5 [x.src, x.dst] = d := ⟨_, rfl⟩
   simp only [hd3] at z3
   have Z3 := Lib.hid z3
   obtain ⟨d4, hd4⟩ : ∃ d, zbA 0 1073741824 [x.term, x.index, x.logt, x.commit, x.size, x.at_, x.base.index, x.base.term] = d := ⟨_, rfl⟩
   simp only [hd4] at z4
   have Z4 := Lib.hid z4
   obtain ⟨d5, hd5⟩ : ∃ d, zbA 0 4611686018427387903 [x.tag] = d := ⟨_, rfl⟩
   simp only [hd5] at z5
   have Z5 := Lib.hid z5
   rw [hd1, hd2, hd3, hd4, hd5, hd6, hd7] at hparts
   have hkd := hx.kind
   have hel : x.ents.l.length ≤ 1000000 := hz.ents
   have hbl : x.bytes.l.length ≤ 1000000 := hz.bytes
   have HG := Lib.hid hG
   have HV0 := Lib.hid hV0
   have HV1 := Lib.hid hV1
   have HP := Lib.hid hparts
   have HNX := Lib.hid hnx
   have HNO := Lib.hid hno
   have Z6 := Lib.hid z6
   have Z7 := Lib.hid z7
   have HOK := Lib.hid hok
   clear hG hV0 hV1 m1 g0 qv0 hparts hnx hno hok hd6 hd7 hd1 z1 hd2 z2 hd3 z3 hd4 z4 hd5 z5 z6 z7 hxe hx hz
   go_upto_region 4 with (first | (refine za5 rfl 50 _ rfl b (o + k * 20) rfl (letL x) _ hc Tryz.underlying50 rfl (by kernel_rfl) ?_) | (rw [← HG.out, ← HV0.out]; refine wpList_store_mid rfl 50 _ _ rfl G 0 (letA x) rfl rfl hth (by kernel_rfl) hone ?_))
   rw [← HV1.out]
   have gg := g1.fr (Fr.refl (fun _ => False) V1) (fun h => h)
   have k0 : V1.cell? ⟨G, 0, none⟩ = some (U8V x.kind) := by simpa using gg.cell 0
   clear gg
   have hcv : IntKind.i64.wrap x.kind = x.kind := IntWalk.i64_in _ (by omega)
   go_wp2_with fail
   refine (Z1.out _ (Fr.refl (fun _ => False) V1)).mono ?_
   rintro e v1 ⟨rfl, r1⟩
   have Q1 : Nw V1 v1 := (Fr.refl (fun _ => False) V1).tr r1
   clear k0
   cases d1 with
   | false =>
    go_wp2_with fail
    go_ret
    exact ⟨zad (congrArg Value.bool (HNO.out (by rw [HP.out]; simp)).symm), (hq.tr qv1).tr Q1⟩
   | true =>
   have gg := g1.fr Q1 (fun h => h)
   have k1 : v1.cell? ⟨G, 1, none⟩ = some (I64 x.group) := by simpa using gg.cell 1
   clear gg
   go_wp2_with fail
   refine (Z2.out _ Q1).mono ?_
   rintro e v2 ⟨rfl, r2⟩
   have Q2 : Nw V1 v2 := Q1.tr r2
   clear k1
   cases d2 with
   | false =>
    go_wp2_with fail
    go_ret
    exact ⟨zad (congrArg Value.bool (HNO.out (by rw [HP.out]; simp)).symm), (hq.tr qv1).tr Q2⟩
   | true =>
   have gg := g1.fr Q2 (fun h => h)
   have k2 : v2.cell? ⟨G, 2, none⟩ = some (I64 x.src) := by simpa using gg.cell 2
   have k3 : v2.cell? ⟨G, 3, none⟩ = some (I64 x.dst) := by simpa using gg.cell 3
   clear gg
   go_wp2_with fail
   refine (Z3.out _ Q2).mono ?_
   rintro e v3 ⟨rfl, r3⟩
   have Q3 : Nw V1 v3 := Q2.tr r3
   clear k2 k3
   cases d3 with
   | false =>
    go_wp2_with fail
    go_ret
    exact ⟨zad (congrArg Value.bool (HNO.out (by rw [HP.out]; simp)).symm), (hq.tr qv1).tr Q3⟩
   | true =>
   have gg := g1.fr Q3 (fun h => h)
   have k4 : v3.cell? ⟨G, 4, none⟩ = some (I64 x.term) := by simpa using gg.cell 4
   have k5 : v3.cell? ⟨G, 5, none⟩ = some (I64 x.index) := by simpa using gg.cell 5
   have k6 : v3.cell? ⟨G, 6, none⟩ = some (I64 x.logt) := by simpa using gg.cell 6
   have k7 : v3.cell? ⟨G, 7, none⟩ = some (I64 x.commit) := by simpa using gg.cell 7
   have k16 : v3.cell? ⟨G, 16, none⟩ = some (I64 x.size) := by simpa using gg.cell 16
   have k17 : v3.cell? ⟨G, 17, none⟩ = some (I64 x.at_) := by simpa using gg.cell 17
   have k10 : v3.cell? ⟨G, 10, none⟩ = some (I64 x.base.index) := by simpa using gg.cell 10
   have k11 : v3.cell? ⟨G, 11, none⟩ = some (I64 x.base.term) := by simpa using gg.cell 11
   clear gg
   go_wp2_with fail
   refine (Z4.out _ Q3).mono ?_
   rintro e v4 ⟨rfl, r4⟩
   have Q4 : Nw V1 v4 := Q3.tr r4
   clear k4 k5 k6 k7 k16 k17 k10 k11
   cases d4 with
   | false =>
    go_wp2_with fail
    go_ret
    exact ⟨zad (congrArg Value.bool (HNO.out (by rw [HP.out]; simp)).symm), (hq.tr qv1).tr Q4⟩
   | true =>
   have gg := g1.fr Q4 (fun h => h)
   have k18 : v4.cell? ⟨G, 18, none⟩ = some (I64 x.tag) := by simpa using gg.cell 18
   clear gg
   go_wp2_with fail
   refine (Z5.out _ Q4).mono ?_
   rintro e v5 ⟨rfl, r5⟩
   have Q5 : Nw V1 v5 := Q4.tr r5
   clear k18
   cases d5 with
   | false =>
    go_wp2_with fail
    go_ret
    exact ⟨zad (congrArg Value.bool (HNO.out (by rw [HP.out]; simp)).symm), (hq.tr qv1).tr Q5⟩
   | true =>
   have gg := g1.fr Q5 (fun h => h)
   have k9 : v5.cell? ⟨G, 9, none⟩ = some (.slice x.ents.a x.ents.l.length x.ents.c) := by simpa using gg.cell 9
   have k19 : v5.cell? ⟨G, 19, none⟩ = some (.slice x.bytes.a x.bytes.l.length x.bytes.c) := by simpa using gg.cell 19
   have k12 : v5.cell? ⟨G, 12, none⟩ = some (.slice x.base.cfg.v.a x.base.cfg.v.l.length x.base.cfg.v.c) := by simpa using gg.cell 12
   have k13 : v5.cell? ⟨G, 13, none⟩ = some (.slice x.base.cfg.o.a x.base.cfg.o.l.length x.base.cfg.o.c) := by simpa using gg.cell 13
   have k14 : v5.cell? ⟨G, 14, none⟩ = some (.slice x.base.cfg.l.a x.base.cfg.l.l.length x.base.cfg.l.c) := by simpa using gg.cell 14
   have k15 : v5.cell? ⟨G, 15, none⟩ = some (.slice x.base.cfg.w.a x.base.cfg.w.l.length x.base.cfg.w.c) := by simpa using gg.cell 15
   clear gg
   by_cases h30 : x.ents.l.length ≤ 30
   case neg =>
    have g2 : (30 : Int) < (x.ents.l.length : Int) := by omega
    have HN := Lib.hid (decide_eq_false h30)
    go_wp2_with fail
    go_ret
    exact ⟨zad (congrArg Value.bool (HNO.out (by rw [HP.out, HN.out]; simp)).symm), (hq.tr qv1).tr Q5⟩
   have h30i : (x.ents.l.length : Int) ≤ 30 := by omega
   have Hh30 := Lib.hid (decide_eq_true h30)
   by_cases h13 : x.bytes.l.length ≤ 131072
   case neg =>
    have g2 : (131072 : Int) < (x.bytes.l.length : Int) := by omega
    have HN := Lib.hid (decide_eq_false h13)
    go_wp2_with fail
    go_ret
    exact ⟨zad (congrArg Value.bool (HNO.out (by rw [HP.out, HN.out]; simp)).symm), (hq.tr qv1).tr Q5⟩
   have h13i : (x.bytes.l.length : Int) ≤ 131072 := by omega
   have Hh13 := Lib.hid (decide_eq_true h13)
   go_wp2_with fail
   refine (Z6.out _ Q5).mono ?_
   rintro e v6 ⟨rfl, r6⟩
   have Q6 : Nw V1 v6 := Q5.tr r6
   clear k9 k19 k12 k13 k14 k15
   cases d6 with
   | false =>
    go_wp2_with fail
    go_ret
    exact ⟨zad (congrArg Value.bool (HNO.out (by rw [HP.out]; simp)).symm), (hq.tr qv1).tr Q6⟩
   | true =>
   have gg := g1.fr Q6 (fun h => h)
   have k9 : v6.cell? ⟨G, 9, none⟩ = some (.slice x.ents.a x.ents.l.length x.ents.c) := by simpa using gg.cell 9
   clear gg
   go_wp2_with fail
   refine (Z7.out _ Q6).mono ?_
   rintro e v7 ⟨rfl, r7⟩
   have Q7 : Nw V1 v7 := Q6.tr r7
   cases d7 with
   | false =>
    go_wp2_with fail
    go_ret
    exact ⟨zad (congrArg Value.bool (HNO.out (by rw [HP.out]; simp)).symm), (hq.tr qv1).tr Q7⟩
   | true =>
    go_wp2_with fail
    go_roundw
    case rel =>
     obtain ⟨kk, a1, a2, a3, a4⟩ := HNX.out (by rw [HP.out, Hh30.out, Hh13.out]; rfl)
     exact ⟨kk, a1, a2, a3, (hq.tr qv1).tr Q7⟩
    case measure => simp [intOf]; omega
  ·obtain rfl : l.length = k := by omega
   go_wp2_with fail
   go_ret
   exact ⟨zad (congrArg Value.bool (zid (fun j hj => HB.out j hj hj)).symm), hq⟩
end Go.Proofs.YtippdjaakcgeoaaGreat
