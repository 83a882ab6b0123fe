/- Lemmas of the walks: RrE. (Laid together by shake.py.) -/
import Derived.Test.YtippdjaakcgeoaaGreatEa20
import Derived.Test.YtippdjaakcgeoaaGreatEa21
set_option linter.unusedVariables false
set_option linter.unusedSimpArgs false
set_option maxRecDepth 100000
set_option maxHeartbeats 16000000
namespace Go.Proofs.YtippdjaakcgeoaaGreat
open Go Go.RowKit
def RxC (W : World) (R : Nat) (cs : Array Value) (L : Nat → Bool) (wz : World) : Prop := (L 16 = false → Nw W wz) ∧ Fr (· = R) W wz ∧ (L 16 = true → Blk wz R 50 cs)
section
variable {W wz w' : World} {R : Nat} {cs : Array Value} {L : Nat → Bool}
theorem RxC.keep (h : RxC W R cs L wz) {j : Nat} (n : (16 != j) = true) : RxC W R cs (onL L j) wz := by
 unfold RxC
 rw [zaN n]
 exact h
theorem RxC.nw (h : RxC W R cs L wz) {j : Nat} (n : (16 != j) = true) (q : Nw wz w') : RxC W R cs (onL L j) w' := by
 unfold RxC
 rw [zaN n]
 exact ⟨fun e => (h.1 e).tr q, h.2.1.tr (Nw.on q), fun e => (h.2.2 e).fr q (fun h => h)⟩
end
section
variable {P : Program} {o : Oper} {a : Act} {w : World} {K : World → Prop}
theorem zaC (ty : TypeId) (x : Operand) (ho : o.op = .load ty x) (g off : Nat) (hx : a.eval x = .pointer (some ⟨g, off, none⟩)) (cs : List Value) (d : TypeDesc) (hc : ∀ j v, cs[j]? = some v → w.cell? ⟨g, off + j, none⟩ = some v)
  (hu : P.underlying ty = some d) (hd : (match d with | .struct _ | .array _ _ => true | _ => false) = true) (hi : (P.info? ty).map (·.size) = some cs.length) (h : K w) : za2 P o a (.agg cs.toArray) K w := by
 unfold za2 execOp
 simp only [ho, hx, Instr.loadAt, Instr.sureAddr, Sem.run_bind, Sem.run_pure, Result.andThen_ok, zd6 w g off ty cs d hc hu hd hi]
 exact ⟨rfl, h⟩
theorem zbx (ty : TypeId) (x y : Operand) (ho : o.op = .store ty x y) (b f : Nat) (cells : Array Value) (hx : a.eval x = .pointer (some ⟨b, f, none⟩)) (hy : a.eval y = .agg cells)
  (ht : w.there b f cells.size) (hi : (P.info? ty).map (·.size) = some cells.size) (h1 : cells.all (·.oneCell') = true) (h : K (w.setCells b f cells.toList)) : za2 P o a undef K w := by
 unfold za2 execOp
 simp only [ho, hx, hy, Sem.run_bind, Sem.run_pure, Result.andThen_ok, run_storeAt_mid w b f ty cells ht hi h1]
 exact ⟨rfl, h⟩
end
def ReRel (w W : World) (F : Nat → Prop) (g X : Nat) (KK : World → Prop) (cells : Value → Array Value) (s3 : Rd) (n : Nat) (gd i : Value) (wr : World) : Prop :=
 ∃ (k : Nat) (cur : Ls EntM), k ≤ n ∧ i = .int .i64 k ∧ gd = .bool (zam k s3).1.2 ∧ cur.l.length = k ∧ RStR false w wr F g X 50 KK (zam k s3).2 (cells (.slice cur.a cur.l.length cur.c)) ∧ zao W wr 87 7 zal cur ∧
  (∀ e ∈ cur.l, zau wr (fun j => W.heap.size ≤ j ∧ ¬ inA cur.a j) e) ∧ (∀ e ∈ cur.l, zaW e) ∧ cur.l.map EntM.x = (zam k s3).1.1 ∧ W.heap.size ≤ wr.heap.size
theorem zkY (w : World) (F : Nat → Prop) (g : Nat) (s : Rd) (h : IsRR w F g s) (hsz : zav s ≤ 1000000000000) :
  Calls Tryz.prog 102 #[.pointer (some ⟨g, 0, none⟩)] w fun e w' => ∃ y : LetM, e = .returned (.tuple #[.agg (letA y), .bool (zbh zch s).1.2]) ∧ y.x = (zbh zch s).1.1 ∧ za3 w' (zab w) y ∧ za8 y ∧ RRTo w F g (zbh zch s).2 w' := by
 obtain ⟨⟨⟨xx, good⟩, se⟩, hP⟩ : ∃ p, zbh zch s = p := ⟨_, rfl⟩
 rw [hP]
 unfold zbh zch at hP
 simp only [rdBy] at hP
 have n1 := fun w1 h1 => zaF w1 F g s h1 255 hsz
 have l1 := Nat.le_trans (zap 255 s) hsz
 have m0 := zbR 255 s (by omega)
 obtain ⟨⟨a0, s1⟩, hq1⟩ : ∃ q, za1 255 s = q := ⟨_, rfl⟩
 simp only [hq1] at n1 l1 hP m0
 have n2 := fun w1 h1 => zaF w1 F g s1 h1 4 l1
 have l2 := Nat.le_trans (zap 4 s1) l1
 obtain ⟨⟨a1, s2⟩, hq2⟩ : ∃ q, za1 4 s1 = q := ⟨_, rfl⟩
 simp only [hq2] at n2 l2 hP
 have n3 := fun w1 h1 => zaF w1 F g s2 h1 5 l2
 have l3 := Nat.le_trans (zap 5 s2) l2
 obtain ⟨⟨a2, s3⟩, hq3⟩ : ∃ q, za1 5 s2 = q := ⟨_, rfl⟩
 simp only [hq3] at n3 l3 hP
 have n4 := fun w1 h1 => zaF w1 F g s3 h1 5 l3
 have l4 := Nat.le_trans (zap 5 s3) l3
 obtain ⟨⟨a3, s4⟩, hq4⟩ : ∃ q, za1 5 s3 = q := ⟨_, rfl⟩
 simp only [hq4] at n4 l4 hP
 have n5 := fun w1 h1 => zaF w1 F g s4 h1 1073741824 l4
 have l5 := Nat.le_trans (zap 1073741824 s4) l4
 obtain ⟨⟨a4, s5⟩, hq5⟩ : ∃ q, za1 1073741824 s4 = q := ⟨_, rfl⟩
 simp only [hq5] at n5 l5 hP
 have n6 := fun w1 h1 => zaF w1 F g s5 h1 1073741824 l5
 have l6 := Nat.le_trans (zap 1073741824 s5) l5
 obtain ⟨⟨a5, s6⟩, hq6⟩ : ∃ q, za1 1073741824 s5 = q := ⟨_, rfl⟩
 simp only [hq6] at n6 l6 hP
 have n7 := fun w1 h1 => zaF w1 F g s6 h1 1073741824 l6
 have l7 := Nat.le_trans (zap 1073741824 s6) l6
 obtain ⟨⟨a6, s7⟩, hq7⟩ : ∃ q, za1 1073741824 s6 = q := ⟨_, rfl⟩
 simp only [hq7] at n7 l7 hP
 have n8 := fun w1 h1 => zaF w1 F g s7 h1 1073741824 l7
 have l8 := Nat.le_trans (zap 1073741824 s7) l7
 obtain ⟨⟨a7, s8⟩, hq8⟩ : ∃ q, za1 1073741824 s7 = q := ⟨_, rfl⟩
 simp only [hq8] at n8 l8 hP
 simp only [List.getD_cons_zero, List.getD_cons_succ] at hP
 have n9 := fun w1 h1 => zke w1 F g s8 h1
 have l9 := Nat.le_trans (zev s8) l8
 obtain ⟨⟨ok, s9⟩, hq9⟩ : ∃ q, zaK s8 = q := ⟨_, rfl⟩
 simp only [hq9] at n9 l9 hP
 have n10 := fun w1 h1 => zaF w1 F g s9 h1 30 l9
 have m10 := zbR 30 s9 (by omega)
 have l10 := Nat.le_trans (zap 30 s9) l9
 obtain ⟨⟨nn, s10⟩, hq10⟩ : ∃ q, za1 30 s9 = q := ⟨_, rfl⟩
 simp only [hq10] at n10 m10 l10 hP
 obtain ⟨n, rfl⟩ : ∃ n : Nat, nn = (n : Int) := ⟨nn.toNat, by omega⟩
 have hn30 : n ≤ 30 := by omega
 simp only [Int.toNat_natCast] at hP
 have hkw : a0 % 256 = a0 := by omega
 have N1 := Lib.hid n1
 have N2 := Lib.hid n2
 have N3 := Lib.hid n3
 have N4 := Lib.hid n4
 have N5 := Lib.hid n5
 have N6 := Lib.hid n6
 have N7 := Lib.hid n7
 have N8 := Lib.hid n8
 have N9 := Lib.hid n9
 have N10 := Lib.hid n10
 have HP := Lib.hid hP
 have L10 := Lib.hid l10
 clear hP m10 n1 l1 hq1 n2 l2 hq2 n3 l3 hq3 n4 l4 hq4 n5 l5 hq5 n6 l6 hq6 n7 l7 hq7 n8 l8 hq8 n9 l9 hq9 n10 l10 hq10
 obtain ⟨R, hR⟩ : ∃ X, X = w.heap.size := ⟨_, rfl⟩
 obtain ⟨X, hX⟩ : ∃ Y, Y = w.heap.size + 1 := ⟨_, rfl⟩
 obtain ⟨Wa, hWa⟩ : ∃ W, W = w.alloc (.cells zL9A 50) := ⟨_, rfl⟩
 have pa : Nw w Wa := by rw [hWa]; exact (Fr.refl (fun _ => False) _).alloc _
 have ra : Blk Wa R 50 zL9A := by rw [hWa, hR]; exact Blk.new _ _ _
 have hza : Wa.heap.size = X := by rw [hWa, hX]; simp
 obtain ⟨W0, hW0⟩ : ∃ W, W = Wa.alloc (.cells zL9A 50) := ⟨_, rfl⟩
 have p0 : Nw Wa W0 := by rw [hW0]; exact (Fr.refl (fun _ => False) _).alloc _
 have x0 : Blk W0 X 50 zL9A := by rw [hW0, ← hza]; exact Blk.new _ _ _
 have r0 := ra.fr p0 (fun h => h)
 have Q0 : Nw w W0 := pa.tr p0
 have hgl := h.lt
 have hFl := h.out.2
 have hRX : R ≠ X := by omega
 have hgX : g ≠ X := by omega
 have hwR : w.heap.size ≤ R := by omega
 have hwX : w.heap.size ≤ X := by omega
 have hXl : X < W0.heap.size := x0.lt
 obtain ⟨KK, hKK⟩ : ∃ K : World → Prop, K = fun wz => Blk wz R 50 zL9A := ⟨_, rfl⟩
 have hKe : ∀ wz, KK wz → Blk wz R 50 zL9A := fun wz hk => by rw [hKK] at hk; exact hk
 have hKi : ∀ wz, Blk wz R 50 zL9A → KK wz := fun wz hk => by rw [hKK]; exact hk
 have st0 : RStR false w W0 F g X 50 KK s zL9A := ⟨h.fr Q0 (fun h => h) (fun _ _ h => h), x0, hKi _ r0, Nw.on Q0, hgX, fun hF => by have := hFl _ hF; omega, hwX, fun a c f hk => hKi _ ((hKe _ hk).fr f (by omega))⟩
 have HR := Lib.hid hR
 have HX := Lib.hid hX
 have HWa := Lib.hid hWa
 have HW0 := Lib.hid hW0
 clear hR hX hWa hW0 hza ra x0 r0 pa p0 hKK
 go_enter Tryz.func102, Tryz.ntmps102
 go_upto_region 2 with (fail)
 rw [← HX.out, ← HR.out, ← HWa.out, ← HW0.out]
 go_upto_region 3 with (go_at_call 101; refine (N1.out _ st0.rd).mono ?_; rintro e w1 ⟨rfl, h1⟩; have su1 := st0.callR h1; have c1 : w1.cell? ⟨X, 0, none⟩ = some (U8V 0) := (by simpa using su1.x.cell 0); have f1 := su1.x.frozen 0)
 obtain ⟨W1, hW1⟩ : ∃ W, W = w1.setCell ⟨X, 0, none⟩ (U8V a0) := ⟨_, rfl⟩
 have st1 : RStR false w W1 F g X 50 KK s1 #[U8V a0, I64 0, I64 0, I64 0, I64 0, I64 0, I64 0, I64 0, .bool false, .slice none 0 0, I64 0, I64 0, .slice none 0 0, .slice none 0 0, .slice none 0 0, .slice none 0 0, I64 0, I64 0, I64 0, .slice none 0 0] := by rw [hW1]; exact su1.set_ 0 (U8V a0)
 have HW1 := Lib.hid hW1
 rw [← HW1.out]
 clear hW1 su1 c1 f1 st0
 go_upto_region 4 with (go_at_call 101; refine (N2.out _ st1.rd).mono ?_; rintro e w2 ⟨rfl, h2⟩; have su2 := st1.callR h2; have c2 : w2.cell? ⟨X, 1, none⟩ = some (I64 0) := (by simpa using su2.x.cell 1); have f2 := su2.x.frozen 1)
 obtain ⟨W2, hW2⟩ : ∃ W, W = w2.setCell ⟨X, 1, none⟩ (I64 a1) := ⟨_, rfl⟩
 have st2 : RStR false w W2 F g X 50 KK s2 #[U8V a0, I64 a1, I64 0, I64 0, I64 0, I64 0, I64 0, I64 0, .bool false, .slice none 0 0, I64 0, I64 0, .slice none 0 0, .slice none 0 0, .slice none 0 0, .slice none 0 0, I64 0, I64 0, I64 0, .slice none 0 0] := by rw [hW2]; exact su2.set_ 1 (I64 a1)
 have HW2 := Lib.hid hW2
 rw [← HW2.out]
 clear hW2 su2 c2 f2 st1
 go_upto_region 5 with (go_at_call 101; refine (N3.out _ st2.rd).mono ?_; rintro e w3 ⟨rfl, h3⟩; have su3 := st2.callR h3; have c3 : w3.cell? ⟨X, 2, none⟩ = some (I64 0) := (by simpa using su3.x.cell 2); have f3 := su3.x.frozen 2)
 obtain ⟨W3, hW3⟩ : ∃ W, W = w3.setCell ⟨X, 2, none⟩ (I64 a2) := ⟨_, rfl⟩
 have st3 : RStR false w W3 F g X 50 KK s3 #[U8V a0, I64 a1, I64 a2, I64 0, I64 0, I64 0, I64 0, I64 0, .bool false, .slice none 0 0, I64 0, I64 0, .slice none 0 0, .slice none 0 0, .slice none 0 0, .slice none 0 0, I64 0, I64 0, I64 0, .slice none 0 0] := by rw [hW3]; exact su3.set_ 2 (I64 a2)
 have HW3 := Lib.hid hW3
 rw [← HW3.out]
 clear hW3 su3 c3 f3 st2
 go_upto_region 6 with (go_at_call 101; refine (N4.out _ st3.rd).mono ?_; rintro e w4 ⟨rfl, h4⟩; have su4 := st3.callR h4; have c4 : w4.cell? ⟨X, 3, none⟩ = some (I64 0) := (by simpa using su4.x.cell 3); have f4 := su4.x.frozen 3)
 obtain ⟨W4, hW4⟩ : ∃ W, W = w4.setCell ⟨X, 3, none⟩ (I64 a3) := ⟨_, rfl⟩
 have st4 : RStR false w W4 F g X 50 KK s4 #[U8V a0, I64 a1, I64 a2, I64 a3, I64 0, I64 0, I64 0, I64 0, .bool false, .slice none 0 0, I64 0, I64 0, .slice none 0 0, .slice none 0 0, .slice none 0 0, .slice none 0 0, I64 0, I64 0, I64 0, .slice none 0 0] := by rw [hW4]; exact su4.set_ 3 (I64 a3)
 have HW4 := Lib.hid hW4
 rw [← HW4.out]
 clear hW4 su4 c4 f4 st3
 go_upto_region 7 with (go_at_call 101; refine (N5.out _ st4.rd).mono ?_; rintro e w5 ⟨rfl, h5⟩; have su5 := st4.callR h5; have c5 : w5.cell? ⟨X, 4, none⟩ = some (I64 0) := (by simpa using su5.x.cell 4); have f5 := su5.x.frozen 4)
 obtain ⟨W5, hW5⟩ : ∃ W, W = w5.setCell ⟨X, 4, none⟩ (I64 a4) := ⟨_, rfl⟩
 have st5 : RStR false w W5 F g X 50 KK s5 #[U8V a0, I64 a1, I64 a2, I64 a3, I64 a4, I64 0, I64 0, I64 0, .bool false, .slice none 0 0, I64 0, I64 0, .slice none 0 0, .slice none 0 0, .slice none 0 0, .slice none 0 0, I64 0, I64 0, I64 0, .slice none 0 0] := by rw [hW5]; exact su5.set_ 4 (I64 a4)
 have HW5 := Lib.hid hW5
 rw [← HW5.out]
 clear hW5 su5 c5 f5 st4
 go_upto_region 8 with (go_at_call 101; refine (N6.out _ st5.rd).mono ?_; rintro e w6 ⟨rfl, h6⟩; have su6 := st5.callR h6; have c6 : w6.cell? ⟨X, 5, none⟩ = some (I64 0) := (by simpa using su6.x.cell 5); have f6 := su6.x.frozen 5)
 obtain ⟨W6, hW6⟩ : ∃ W, W = w6.setCell ⟨X, 5, none⟩ (I64 a5) := ⟨_, rfl⟩
 have st6 : RStR false w W6 F g X 50 KK s6 #[U8V a0, I64 a1, I64 a2, I64 a3, I64 a4, I64 a5, I64 0, I64 0, .bool false, .slice none 0 0, I64 0, I64 0, .slice none 0 0, .slice none 0 0, .slice none 0 0, .slice none 0 0, I64 0, I64 0, I64 0, .slice none 0 0] := by rw [hW6]; exact su6.set_ 5 (I64 a5)
 have HW6 := Lib.hid hW6
 rw [← HW6.out]
 clear hW6 su6 c6 f6 st5
 go_upto_region 9 with (go_at_call 101; refine (N7.out _ st6.rd).mono ?_; rintro e w7 ⟨rfl, h7⟩; have su7 := st6.callR h7; have c7 : w7.cell? ⟨X, 6, none⟩ = some (I64 0) := (by simpa using su7.x.cell 6); have f7 := su7.x.frozen 6)
 obtain ⟨W7, hW7⟩ : ∃ W, W = w7.setCell ⟨X, 6, none⟩ (I64 a6) := ⟨_, rfl⟩
 have st7 : RStR false w W7 F g X 50 KK s7 #[U8V a0, I64 a1, I64 a2, I64 a3, I64 a4, I64 a5, I64 a6, I64 0, .bool false, .slice none 0 0, I64 0, I64 0, .slice none 0 0, .slice none 0 0, .slice none 0 0, .slice none 0 0, I64 0, I64 0, I64 0, .slice none 0 0] := by rw [hW7]; exact su7.set_ 6 (I64 a6)
 have HW7 := Lib.hid hW7
 rw [← HW7.out]
 clear hW7 su7 c7 f7 st6
 go_upto_region 10 with (go_at_call 101; refine (N8.out _ st7.rd).mono ?_; rintro e w8 ⟨rfl, h8⟩; have su8 := st7.callR h8; have c8 : w8.cell? ⟨X, 7, none⟩ = some (I64 0) := (by simpa using su8.x.cell 7); have f8 := su8.x.frozen 7)
 obtain ⟨W8, hW8⟩ : ∃ W, W = w8.setCell ⟨X, 7, none⟩ (I64 a7) := ⟨_, rfl⟩
 have st8 : RStR false w W8 F g X 50 KK s8 #[U8V a0, I64 a1, I64 a2, I64 a3, I64 a4, I64 a5, I64 a6, I64 a7, .bool false, .slice none 0 0, I64 0, I64 0, .slice none 0 0, .slice none 0 0, .slice none 0 0, .slice none 0 0, I64 0, I64 0, I64 0, .slice none 0 0] := by rw [hW8]; exact su8.set_ 7 (I64 a7)
 have HW8 := Lib.hid hW8
 rw [← HW8.out]
 clear hW8 su8 c8 f8 st7
 go_upto_region 11 with (go_at_call 172; refine (N9.out _ st8.rd).mono ?_; rintro e w9 ⟨rfl, h9⟩; have su9 := st8.callR h9; have c9 : w9.cell? ⟨X, 8, none⟩ = some (.bool false) := (by simpa using su9.x.cell 8); have f9 := su9.x.frozen 8)
 obtain ⟨W9, hW9⟩ : ∃ W, W = w9.setCell ⟨X, 8, none⟩ (.bool ok) := ⟨_, rfl⟩
 have st9 : RStR false w W9 F g X 50 KK s9 #[U8V a0, I64 a1, I64 a2, I64 a3, I64 a4, I64 a5, I64 a6, I64 a7, .bool ok, .slice none 0 0, I64 0, I64 0, .slice none 0 0, .slice none 0 0, .slice none 0 0, .slice none 0 0, I64 0, I64 0, I64 0, .slice none 0 0] := by rw [hW9]; exact su9.set_ 8 (.bool ok)
 have HW9 := Lib.hid hW9
 rw [← HW9.out]
 clear hW9 su9 c9 f9 st8
 go_wp2_with fail
 refine (N10.out _ st9.rd).mono ?_
 rintro e wB ⟨rfl, h10⟩
 have st10 := st9.callR h10
 clear st9 h10
 go_wp2_with fail
 have hg3 : g < wB.heap.size ∧ X < wB.heap.size ∧ R < wB.heap.size := ⟨st10.rd.lt, st10.x.lt, (hKe _ st10.k).lt⟩
 have HKE := Lib.hid hKe
 have HKI := Lib.hid hKi
 have HFL := Lib.hid hFl
 clear hKe hKi hFl
 go_loopw [6, 7] (fun gd i wx => ReRel w wB F g X KK (fun v => #[U8V a0, I64 a1, I64 a2, I64 a3, I64 a4, I64 a5, I64 a6, I64 a7, .bool ok, v, I64 0, I64 0, .slice none 0 0, .slice none 0 0, .slice none 0 0, .slice none 0 0, I64 0, I64 0, I64 0, .slice none 0 0]) s10 n gd i wx) (fun _ i _ => n - (intOf i).toNat)
 case atStart => exact ⟨0, lsZ, Nat.zero_le _, rfl, rfl, rfl, st10, ⟨Own.nil _ _ _, fun k hk => (zaH k hk).elim⟩, (by intro e he; cases he), (by intro e he; cases he), rfl, Nat.le_refl _⟩
 case round =>
  clear st10
  obtain ⟨k, cur, hk, rfl, rfl, hcl, st, ho, he, hz, hm, hwz⟩ := hrel
  by_cases hlt : k < n
  ·have hi0 : (k : Int) < (n : Int) := by omega
   have hsucc : zam (k + 1) s10 = (((zam k s10).1.1 ++ [(zbb (zam k s10).2).1], (zam k s10).1.2 && (zbb (zam k s10).2).2), (zb7 (zam k s10).2).2) := rfl
   have hcall := fun w1 h1 => zjO w1 F g (zam k s10).2 h1 (Nat.le_trans (zd9 k s10) L10.out)
   have hzs := fun (y : EntM) h => zaW.read (y := y) (s := (zam k s10).2) h
   generalize (zam k s10).1.1 = es0 at hsucc hm
   obtain ⟨gd, hgd⟩ : ∃ q, (zam k s10).1.2 = q := ⟨_, rfl⟩
   obtain ⟨sk, hsk⟩ : ∃ q, (zam k s10).2 = q := ⟨_, rfl⟩
   rw [hsk] at hsucc hcall hzs st
   rw [hgd] at hsucc ⊢
   obtain ⟨⟨qe, qd⟩, hqe⟩ : ∃ q, zbb sk = q := ⟨_, rfl⟩
   obtain ⟨sn, hsn⟩ : ∃ q, (zb7 sk).2 = q := ⟨_, rfl⟩
   simp only [hqe, hsn] at hsucc hcall hzs
   have HS := Lib.hid hsucc
   have HCA := Lib.hid hcall
   have HZS := Lib.hid hzs
   have HE := Lib.hid he
   have HZ := Lib.hid hz
   have HM := Lib.hid hm
   clear hsucc hcall hzs he hz hm hsk hqe hsn hgd
   go_wp2_with fail
   refine (HCA.out _ st.rd).mono ?_
   rintro e w4 ⟨y, rfl, ey, oy, h4⟩
   have st4 := st.callR h4
   obtain ⟨G, hG⟩ : ∃ G, G = w4.heap.size := ⟨_, rfl⟩
   obtain ⟨V0, hV0⟩ : ∃ V, V = w4.alloc (.cells zE9A 87) := ⟨_, rfl⟩
   have qv0 : Nw w4 V0 := by rw [hV0]; exact (Fr.refl (fun _ => False) w4).alloc _
   have g0 : Blk V0 G 87 zE9A := by rw [hV0, hG]; exact Blk.new _ _ _
   obtain ⟨V1, hV1⟩ : ∃ V, V = V0.setCells G 0 (entL y) := ⟨_, rfl⟩
   have g1 : Blk V1 G 87 (entA y) := by rw [hV1]; exact Blk.setCells (l := zE9L) g0 0 (entL y)
   have m1 : Fr (· = G) V0 V1 := by rw [hV1]; exact (Fr.refl (· = G) _).setCells _ _
   have qv1 : Nw w4 V1 := qv0.new m1 (fun b hb => by omega)
   have hth := Blk.there (l := zE9L) g0 0 7 (by show 0 + 7 ≤ 7; omega)
   have hone := zbo y
   have hcy := zcC y
   have st5 := st4.nw qv1
   have hlg := Blk.cells_at (l := (entL y)) g1 0
   have HG := Lib.hid hG
   have HV0 := Lib.hid hV0
   have HV1 := Lib.hid hV1
   have HEY := Lib.hid ey
   clear hG hV0 hV1 m1 g0 qv0 ey st4
   go_upto_region 17 with (rw [← HG.out, ← HV0.out]; refine wpList_store_mid rfl 87 _ _ rfl G 0 (entA y) rfl rfl hth (by kernel_rfl) hone ?_; rw [← HV1.out])
   obtain ⟨V2, hV2⟩ : ∃ V, V = V1.alloc (.cells (entA y) 87) := ⟨_, rfl⟩
   have sln := zaI V1 87 (entL y) _ rfl
   have qv2 : Nw V1 V2 := by rw [hV2]; exact (Fr.refl (fun _ => False) V1).alloc _
   have st6 := st5.nw qv2
   have hAb := ho.base
   have ho4 := ho.fr h4.2 (fun j hj e => by have := hAb j hj; omega)
   have hoa := ((ho4.nw qv1).nw qv2).own
   have c9 : V1.cell? ⟨X, 9, none⟩ = some (.slice cur.a cur.l.length cur.c) := by simpa using st5.x.cell 9
   rw [← hV2] at sln
   have HV2 := Lib.hid hV2
   have HCL := Lib.hid hcl
   have hcl30 : cur.l.length ≤ 30 := by omega
   have hS6 : ∀ (B' : Option Addr) (c' : Nat) (w5 : World), zaM V2 87 7 cur.a cur.l.length cur.c 1 (zal cur.l) (entL y) B' c' w5 → RStR false w w5 F g X 50 KK sn #[U8V a0, I64 a1, I64 a2, I64 a3, I64 a4, I64 a5, I64 a6, I64 a7, .bool ok, .slice cur.a cur.l.length cur.c, I64 0, I64 0, .slice none 0 0, .slice none 0 0, .slice none 0 0, .slice none 0 0, I64 0, I64 0, I64 0, .slice none 0 0] := fun B' c' w5 hap =>
    st6.other hap.fr (fun h => by have := hAb _ h; omega) (fun h => by have := hAb _ h; omega) (fun j hj h => by have h5 := hAb _ h; have h6 := HFL.out j hj; omega) (fun j hj => by have := hAb _ hj; omega) (HKI.out _ ((HKE.out _ st6.k).fr hap.fr (fun h => by have := hAb _ h; omega))) st6.st
   clear hV2 hcl st5
   go_upto_region 18 with (first | (refine za5 rfl 87 _ rfl G 0 rfl (entL y) _ hlg Tryz.underlying87 rfl (by kernel_rfl) ?_) | (at_builtin; rw [← HV2.out]; refine zay rfl _ _ _ rfl 136 (.agg zE9A) Tryz.underlying43 zfs rfl (by decide) rfl hoa rfl sln rfl hcy (by omega) (by unfold maxLen; omega) ?_; intro B' c' w5 hap; have st7 := hS6 B' c' w5 hap; have c95 : w5.cell? ⟨X, 9, none⟩ = some (.slice cur.a cur.l.length cur.c) := (by simpa using st7.x.cell 9); have f95 := st7.x.frozen 9))
   obtain ⟨w6, hw6⟩ : ∃ w6, w6 = w5.setCell ⟨X, 9, none⟩ (.slice B' (cur.l.length + 1) c') := ⟨_, rfl⟩
   have st8 : RStR false w w6 F g X 50 KK sn #[U8V a0, I64 a1, I64 a2, I64 a3, I64 a4, I64 a5, I64 a6, I64 a7, .bool ok, .slice B' (cur.l.length + 1) c', I64 0, I64 0, .slice none 0 0, .slice none 0 0, .slice none 0 0, .slice none 0 0, I64 0, I64 0, I64 0, .slice none 0 0] := by rw [hw6]; exact RStR.set_ st7 9 _
   have m6 : Fr (· = X) w5 w6 := by rw [hw6]; exact (Fr.refl (· = X) _).set1 _ _
   have hfin : ∀ v, v = (gd && qd) → ReRel w wB F g X KK (fun v => #[U8V a0, I64 a1, I64 a2, I64 a3, I64 a4, I64 a5, I64 a6, I64 a7, .bool ok, v, I64 0, I64 0, .slice none 0 0, .slice none 0 0, .slice none 0 0, .slice none 0 0, I64 0, I64 0, I64 0, .slice none 0 0]) s10 n (.bool v) (.int .i64 ((k : Int) + 1)) w6 := by
    rintro v rfl
    have hcl := HCL.out
    have hin : ∀ j, inA B' j → inA cur.a j ∨ j = V2.heap.size := hap.inA_
    have hBl : ∀ j, inA cur.a j → j < wr.heap.size := ho.own.lt
    have hs4 := h4.2.size
    have hs1 := qv1.size
    have hs2 := qv2.size
    have hs5 := hap.fr.size
    have hs6 := m6.size
    refine ⟨k + 1, ⟨B', c', cur.l ++ [y]⟩, by omega, by simp, by rw [HS.out], by simp [hcl], ?_, ⟨?_, fun j hj => ?_⟩, fun u hu => ?_, fun u hu => ?_, ?_, by omega⟩
    ·rw [HS.out]
     show RStR false w w6 F g X 50 KK sn #[U8V a0, I64 a1, I64 a2, I64 a3, I64 a4, I64 a5, I64 a6, I64 a7, .bool ok, .slice B' (cur.l ++ [y]).length c', I64 0, I64 0, .slice none 0 0, .slice none 0 0, .slice none 0 0, .slice none 0 0, I64 0, I64 0, I64 0, .slice none 0 0]
     rw [List.length_append]
     exact st8
    ·show Own w6 87 7 B' (cur.l ++ [y]).length c' (zal (cur.l ++ [y]))
     rw [List.length_append, zcx, zdW]
     refine hap.1.fr m6 (fun j hj e => ?_)
     rcases hin j hj with h | h
     ·have := ho.base j h
      omega
     ·omega
    ·rcases hin j hj with h | h
     ·exact ho.base j h
     ·rw [h]; omega
    ·rcases List.mem_append.1 hu with hu | hu
     ·have i1 := ((((HE.out u hu).mono (F' := fun j => (wB.heap.size ≤ j ∧ ¬ inA cur.a j) ∧ j < wr.heap.size) (fun j hj hl => ⟨hj, hl⟩)).fr h4.2 (fun j hj e => by have := hj.1.1; omega)).nw qv1).nw qv2
      refine ((i1.fr hap.fr (fun j hj => hj.1.2)).fr m6 (fun j hj e => by have := hj.1.1; omega)).mono (fun j hj _ => ⟨hj.1.1, fun hB => ?_⟩)
      rcases hin j hB with h | h
      ·exact hj.1.2 h
      ·have := hj.2
       omega
     ·rw [List.mem_singleton.1 hu]
      have i1 := ((oy.mono (F' := fun j => wr.heap.size ≤ j ∧ j < w4.heap.size) (fun j hj hl => ⟨hj, hl⟩)).nw qv1).nw qv2
      refine ((i1.fr hap.fr (fun j hj e => by have := hBl j e; have := hj.1; omega)).fr m6 (fun j hj e => by have := hj.1; omega)).mono (fun j hj _ => ⟨by have := hj.1; omega, fun hB => ?_⟩)
      rcases hin j hB with h | h
      ·have := hBl j h
       have := hj.1
       omega
      ·have := hj.2
       omega
    ·rcases List.mem_append.1 hu with hu | hu
     ·exact HZ.out u hu
     ·rw [List.mem_singleton.1 hu]; exact HZS.out y HEY.out
    ·rw [HS.out, List.map_append, HM.out, List.map_singleton, HEY.out]
   have HW6 := Lib.hid hw6
   have HFIN := Lib.hid hfin
   rw [← HW6.out]
   clear hw6 hfin st8 m6 st7 hap hS6 c9 c95 f95 sln hoa ho4 st6 st ho
   cases gd with
   | false =>
    go_wp2_with fail
    go_roundw
    case rel => exact HFIN.out _ (by simp)
    case measure => simp [intOf]; omega
   | true =>
    go_wp2_with fail
    go_roundw
    case rel => exact HFIN.out _ (by simp)
    case measure => simp [intOf]; omega
  ·obtain rfl : k = n := by omega
   have hP := HP.out
   have l11 := Nat.le_trans (zd9 k s10) L10.out
   obtain ⟨⟨⟨es, eok⟩, s11⟩, hq11⟩ : ∃ q, zam k s10 = q := ⟨_, rfl⟩
   rw [hq11] at st hm l11
   simp only [hq11] at st hm l11 hP ⊢
   have n12 := fun w1 h1 => zgK w1 F g s11 h1 l11
   have l12 := Nat.le_trans (zex s11) l11
   have sz5 := fun (y : BasM) (h : y.x = (zbu s11).1) => zaY.readB h
   obtain ⟨⟨bs, bok⟩, hq12⟩ : ∃ q, zbu s11 = q := ⟨_, rfl⟩
   obtain ⟨s12, hq12'⟩ : ∃ q, (zb8 s11).2 = q := ⟨_, rfl⟩
   simp only [hq12, hq12'] at n12 l12 sz5 hP
   have n13 := fun w1 h1 => zaF w1 F g s12 h1 1073741824 l12
   have l13 := Nat.le_trans (zap 1073741824 s12) l12
   obtain ⟨⟨b0, s13⟩, hq13⟩ : ∃ q, za1 1073741824 s12 = q := ⟨_, rfl⟩
   simp only [hq13] at n13 l13 hP
   have n14 := fun w1 h1 => zaF w1 F g s13 h1 1073741824 l13
   have l14 := Nat.le_trans (zap 1073741824 s13) l13
   obtain ⟨⟨b1, s14⟩, hq14⟩ : ∃ q, za1 1073741824 s13 = q := ⟨_, rfl⟩
   simp only [hq14] at n14 l14 hP
   have n15 := fun w1 h1 => zaF w1 F g s14 h1 4611686018427387903 l14
   have l15 := Nat.le_trans (zap 4611686018427387903 s14) l14
   obtain ⟨⟨tg, s15⟩, hq15⟩ : ∃ q, za1 4611686018427387903 s14 = q := ⟨_, rfl⟩
   simp only [hq15] at n15 l15 hP
   have n16 := fun w1 h1 => zhD w1 F g s15 h1 131072 l15
   have m16 := zdU 131072 (by omega) s15
   obtain ⟨⟨by_, s16⟩, hq16⟩ : ∃ q, zb1 131072 s15 = q := ⟨_, rfl⟩
   simp only [hq16] at n16 m16 hP
   have N13 := Lib.hid n13
   have N14 := Lib.hid n14
   have N15 := Lib.hid n15
   have N16 := Lib.hid n16
   have M16 := Lib.hid m16
   have Z5 := Lib.hid sz5
   have HPP := Lib.hid hP
   have HM := Lib.hid hm
   have HZ := Lib.hid hz
   have hz30 : cur.l.length ≤ 30 := by omega
   have HCL := Lib.hid hcl
   clear hP l11 l12 l13 l14 l15 hq11 hq12 hq12' hq13 hq14 hq15 hq16 n13 n14 n15 n16 m16 sz5 hm hz hcl
   go_wp2_with fail
   refine (n12 _ st.rd).mono ?_
   rintro e w4 ⟨y, rfl, ey, oy, h4⟩
   have hzc := Z5.out y ey
   obtain ⟨K2, hK2⟩ : ∃ K : World → Prop, K = fun wz => (LsIn wz (fun j => wB.heap.size ≤ j) zal cur) ∧ (∀ e ∈ cur.l, zau wz (fun j => wB.heap.size ≤ j) e) ∧ zaD wz (fun j => wB.heap.size ≤ j) y.cfg := ⟨_, rfl⟩
   have hK2s : ∀ a c, Fr (fun k => k = g ∨ k = X) a c → K2 a → K2 c := fun a c f hk => by
    rw [hK2] at hk ⊢
    obtain ⟨k1, k2, k3⟩ := hk
    have hn : ∀ j, wB.heap.size ≤ j → ¬ (j = g ∨ j = X) := fun j hj e => by omega
    exact ⟨k1.fr f hn, fun e he => (k2 e he).fr f hn, k3.fr f hn⟩
   have k24 : K2 w4 := by
    rw [hK2]
    exact ⟨(ho.fr h4.2 (fun j hj e => by have := ho.base j hj; omega)).in_, fun e he' => ((he e he').fr h4.2 (fun j hj e => by have := hj.1; omega)).mono (fun j hj _ => hj.1), oy.mono (fun j hj _ => Nat.le_trans hwz hj)⟩
   have st4 := (st.callR h4).more k24 hK2s
   obtain ⟨G, hG⟩ : ∃ G, G = w4.heap.size := ⟨_, rfl⟩
   obtain ⟨V0, hV0⟩ : ∃ V, V = w4.alloc (.cells zB9A 47) := ⟨_, rfl⟩
   have qv0 : Nw w4 V0 := by rw [hV0]; exact (Fr.refl (fun _ => False) w4).alloc _
   have g0 : Blk V0 G 47 zB9A := by rw [hV0, hG]; exact Blk.new _ _ _
   obtain ⟨V1, hV1⟩ : ∃ V, V = V0.setCells G 0 (bl9 y) := ⟨_, rfl⟩
   have g1 : Blk V1 G 47 (basA y) := by rw [hV1]; exact Blk.setCells (l := zB9L) g0 0 (bl9 y)
   have m1 : Fr (· = G) V0 V1 := by rw [hV1]; exact (Fr.refl (· = G) _).setCells _ _
   have qv1 : Nw w4 V1 := qv0.new m1 (fun b hb => by omega)
   have hth := Blk.there (l := zB9L) g0 0 6 (by show 0 + 6 ≤ 6; omega)
   have hone := zcY y
   have st5 := st4.nw qv1
   have hlg := Blk.cells_at (l := (bl9 y)) g1 0
   have thx := Blk.there (l := [U8V a0, I64 a1, I64 a2, I64 a3, I64 a4, I64 a5, I64 a6, I64 a7, .bool ok, .slice cur.a cur.l.length cur.c, I64 0, I64 0, .slice none 0 0, .slice none 0 0, .slice none 0 0, .slice none 0 0, I64 0, I64 0, I64 0, .slice none 0 0]) st5.x 10 6 (by show 10 + 6 ≤ 20; omega)
   obtain ⟨V2, hV2⟩ : ∃ V, V = V1.setCells X 10 (bl9 y) := ⟨_, rfl⟩
   have m2 : Fr (· = X) V1 V2 := by rw [hV2]; exact (Fr.refl (· = X) _).setCells _ _
   have st6 := st5.both (s' := s12) (m2.mono fun b hb => .inl (.inr hb)) (st5.rd.fr m2 (fun e => st5.gX e) (fun j hj e => st5.FX (e ▸ hj))) (by rw [hV2]; exact Blk.setCells (l := [U8V a0, I64 a1, I64 a2, I64 a3, I64 a4, I64 a5, I64 a6, I64 a7, .bool ok, .slice cur.a cur.l.length cur.c, I64 0, I64 0, .slice none 0 0, .slice none 0 0, .slice none 0 0, .slice none 0 0, I64 0, I64 0, I64 0, .slice none 0 0]) st5.x 10 (bl9 y) : Blk V2 X 50 #[U8V a0, I64 a1, I64 a2, I64 a3, I64 a4, I64 a5, I64 a6, I64 a7, .bool ok, .slice cur.a cur.l.length cur.c, I64 y.index, I64 y.term, .slice y.cfg.v.a y.cfg.v.l.length y.cfg.v.c, .slice y.cfg.o.a y.cfg.o.l.length y.cfg.o.c, .slice y.cfg.l.a y.cfg.l.l.length y.cfg.l.c, .slice y.cfg.w.a y.cfg.w.l.length y.cfg.w.c, I64 0, I64 0, I64 0, .slice none 0 0])
   have HG := Lib.hid hG
   have HV0 := Lib.hid hV0
   have HV1 := Lib.hid hV1
   have HV2 := Lib.hid hV2
   have HEY := Lib.hid ey
   have HK2 := Lib.hid hK2
   have HZC := Lib.hid hzc
   clear hG hV0 hV1 hV2 m1 g0 qv0 ey st4 hK2 hK2s k24 oy ho he hzc st h4 st5 m2
   go_upto_region 20 with (rw [← HG.out, ← HV0.out]; refine wpList_store_mid rfl 47 _ _ rfl G 0 (basA y) rfl rfl hth (by kernel_rfl) hone ?_; rw [← HV1.out])
   go_upto_region 21 with (first | (refine za5 rfl 47 _ rfl G 0 rfl (bl9 y) _ hlg Tryz.underlying47 rfl (by kernel_rfl) ?_) | (refine wpList_store_mid rfl 47 _ _ rfl X 10 (basA y) rfl rfl thx (by kernel_rfl) hone ?_; rw [← HV2.out]))
   clear hlg thx hone g1 hth
   have fb7 := st6.x.lt
   have fc7 := (HKE.out _ st6.k.1).lt
   have fd7 := st6.fr.size
   go_upto_region 22 with (go_at_call 101; refine (N13.out _ st6.rd).mono ?_; rintro e w7 ⟨rfl, h7⟩; have su7 := st6.callR h7; have c7 : w7.cell? ⟨X, 16, none⟩ = some (I64 0) := (by simpa using su7.x.cell 16); have f7 := su7.x.frozen 16)
   obtain ⟨W7, hW7⟩ : ∃ W, W = w7.setCell ⟨X, 16, none⟩ (I64 b0) := ⟨_, rfl⟩
   have st7 : RStR false w W7 F g X 50 (fun w => KK w ∧ K2 w) s13 #[U8V a0, I64 a1, I64 a2, I64 a3, I64 a4, I64 a5, I64 a6, I64 a7, .bool ok, .slice cur.a cur.l.length cur.c, I64 y.index, I64 y.term, .slice y.cfg.v.a y.cfg.v.l.length y.cfg.v.c, .slice y.cfg.o.a y.cfg.o.l.length y.cfg.o.c, .slice y.cfg.l.a y.cfg.l.l.length y.cfg.l.c, .slice y.cfg.w.a y.cfg.w.l.length y.cfg.w.c, I64 b0, I64 0, I64 0, .slice none 0 0] := by rw [hW7]; exact su7.set_ 16 (I64 b0)
   have HW7 := Lib.hid hW7
   rw [← HW7.out]
   clear hW7 su7 c7 f7 st6
   have fb8 := st7.x.lt
   have fc8 := (HKE.out _ st7.k.1).lt
   have fd8 := st7.fr.size
   go_upto_region 23 with (go_at_call 101; refine (N14.out _ st7.rd).mono ?_; rintro e w8 ⟨rfl, h8⟩; have su8 := st7.callR h8; have c8 : w8.cell? ⟨X, 17, none⟩ = some (I64 0) := (by simpa using su8.x.cell 17); have f8 := su8.x.frozen 17)
   obtain ⟨W8, hW8⟩ : ∃ W, W = w8.setCell ⟨X, 17, none⟩ (I64 b1) := ⟨_, rfl⟩
   have st8 : RStR false w W8 F g X 50 (fun w => KK w ∧ K2 w) s14 #[U8V a0, I64 a1, I64 a2, I64 a3, I64 a4, I64 a5, I64 a6, I64 a7, .bool ok, .slice cur.a cur.l.length cur.c, I64 y.index, I64 y.term, .slice y.cfg.v.a y.cfg.v.l.length y.cfg.v.c, .slice y.cfg.o.a y.cfg.o.l.length y.cfg.o.c, .slice y.cfg.l.a y.cfg.l.l.length y.cfg.l.c, .slice y.cfg.w.a y.cfg.w.l.length y.cfg.w.c, I64 b0, I64 b1, I64 0, .slice none 0 0] := by rw [hW8]; exact su8.set_ 17 (I64 b1)
   have HW8 := Lib.hid hW8
   rw [← HW8.out]
   clear hW8 su8 c8 f8 st7
   have fb9 := st8.x.lt
   have fc9 := (HKE.out _ st8.k.1).lt
   have fd9 := st8.fr.size
   go_upto_region 24 with (go_at_call 101; refine (N15.out _ st8.rd).mono ?_; rintro e w9 ⟨rfl, h9⟩; have su9 := st8.callR h9; have c9 : w9.cell? ⟨X, 18, none⟩ = some (I64 0) := (by simpa using su9.x.cell 18); have f9 := su9.x.frozen 18)
   obtain ⟨W9, hW9⟩ : ∃ W, W = w9.setCell ⟨X, 18, none⟩ (I64 tg) := ⟨_, rfl⟩
   have st9 : RStR false w W9 F g X 50 (fun w => KK w ∧ K2 w) s15 #[U8V a0, I64 a1, I64 a2, I64 a3, I64 a4, I64 a5, I64 a6, I64 a7, .bool ok, .slice cur.a cur.l.length cur.c, I64 y.index, I64 y.term, .slice y.cfg.v.a y.cfg.v.l.length y.cfg.v.c, .slice y.cfg.o.a y.cfg.o.l.length y.cfg.o.c, .slice y.cfg.l.a y.cfg.l.l.length y.cfg.l.c, .slice y.cfg.w.a y.cfg.w.l.length y.cfg.w.c, I64 b0, I64 b1, I64 tg, .slice none 0 0] := by rw [hW9]; exact su9.set_ 18 (I64 tg)
   have HW9 := Lib.hid hW9
   rw [← HW9.out]
   clear hW9 su9 c9 f9 st8
   have fb10 := st9.x.lt
   have fc10 := (HKE.out _ st9.k.1).lt
   have fd10 := st9.fr.size
   go_upto_region 25 with (go_at_call 175; refine (N16.out _ st9.rd).mono ?_; rintro e w10 ⟨A8, cp8, rfl, o8, h10, n8⟩; have su10 := st9.callR h10; have c10 : w10.cell? ⟨X, 19, none⟩ = some (.slice none 0 0) := (by simpa using su10.x.cell 19); have f10 := su10.x.frozen 19)
   obtain ⟨W10, hW10⟩ : ∃ W, W = w10.setCell ⟨X, 19, none⟩ (.slice A8 by_.length cp8) := ⟨_, rfl⟩
   have st10 : RStR false w W10 F g X 50 (fun w => KK w ∧ K2 w) s16 (lv9A a0 a1 a2 a3 a4 a5 a6 a7 ok cur y b0 b1 tg A8 by_.length cp8) := by rw [hW10]; exact su10.set_ 19 (.slice A8 by_.length cp8)
   have HW10 := Lib.hid hW10
   rw [← HW10.out]
   clear hW10 su10 c10 f10
   have hRl := hg3.2.2
   have hk10 := st10.k
   rw [HK2.out] at hk10
   obtain ⟨kk, k1, k2, k3⟩ := hk10
   have r10 := HKE.out _ kk
   have hb8 : LsIn W10 (fun j => w.heap.size ≤ j ∧ j ≠ R) zaw ⟨A8, cp8, by_⟩ := by
    have m8 : Fr (· = X) w10 W10 := by rw [HW10.out]; exact (Fr.refl (· = X) _).set1 19 (.slice A8 by_.length cp8)
    have o9 := o8.fr m8 (fun j hj e => by have := n8 j hj; omega)
    exact ⟨o9.sl.mono (fun j hj _ => by have := n8 j hj; omega), o9.cap_le⟩
   obtain ⟨Y, hY⟩ : ∃ Y : LetM, Y = ⟨a0, a1, a2, a3, a4, a5, a6, a7, ok, cur, y, b0, b1, tg, ⟨A8, cp8, by_⟩⟩ := ⟨_, rfl⟩
   have hYI : za3 W10 (fun j => w.heap.size ≤ j ∧ j ≠ R) Y := by
    rw [hY]
    exact ⟨by show 0 ≤ a0 ∧ a0 ≤ 255; omega, k1.mono (fun j hj _ => by omega), fun e he => (k2 e he).mono (fun j hj _ => by omega), k3.mono (fun j hj _ => by omega), hb8⟩
   have hYZ : za8 Y := by
    rw [hY]
    exact ⟨by show cur.l.length ≤ _; omega, HZ.out, HZC.out, by show by_.length ≤ _; have := M16.out; omega⟩
   have hYx : Y.x = ⟨a0, a1, a2, a3, a4, a5, a6, a7, ok, es, bs, b0, b1, tg, by_⟩ := by
    rw [hY]
    show (⟨a0, a1, a2, a3, a4, a5, a6, a7, ok, cur.l.map EntM.x, y.x, b0, b1, tg, by_⟩ : LetF) = _
    rw [HM.out, HEY.out]
   obtain ⟨⟨hx1, hgood⟩, hse⟩ : (xx = Y.x ∧ good = (eok && (bok && (s16.isSome && zaE Y.x)))) ∧ se = s16 := by
    have := HPP.out
    rw [hYx]
    injection this with h1 h2
    injection h1 with h3 h4
    exact ⟨⟨h3.symm, h4.symm⟩, h2.symm⟩
   have hYA : (lv9A a0 a1 a2 a3 a4 a5 a6 a7 ok cur y b0 b1 tg A8 by_.length cp8) = letA Y := by rw [hY]
   have oneY : (lv9A a0 a1 a2 a3 a4 a5 a6 a7 ok cur y b0 b1 tg A8 by_.length cp8).all (·.oneCell') = true := by rw [hYA]; exact zbc Y
   have hXR := hRX
   have hlx : ∀ wz, Fr (· = R) W10 wz → ∀ p u, ((lv9L a0 a1 a2 a3 a4 a5 a6 a7 ok cur y b0 b1 tg A8 by_.length cp8) : List Value)[p]? = some u → wz.cell? ⟨X, 0 + p, none⟩ = some u := fun wz f => Blk.cells_at (l := (lv9L a0 a1 a2 a3 a4 a5 a6 a7 ok cur y b0 b1 tg A8 by_.length cp8)) (st10.x.fr f (fun e => hXR e.symm)) 0
   have hst : ∀ wz, Nw W10 wz → wz.there R 0 20 ∧ Blk (wz.setCells R 0 (lv9L a0 a1 a2 a3 a4 a5 a6 a7 ok cur y b0 b1 tg A8 by_.length cp8)) R 50 (lv9A a0 a1 a2 a3 a4 a5 a6 a7 ok cur y b0 b1 tg A8 by_.length cp8) := fun wz f => by
    have r := r10.fr f (fun h => h)
    exact ⟨Blk.there (l := zL9L) r 0 20 (by show 0 + 20 ≤ 20; omega), Blk.setCells (l := zL9L) r 0 (lv9L a0 a1 a2 a3 a4 a5 a6 a7 ok cur y b0 b1 tg A8 by_.length cp8)⟩
   have hrg : ∀ wz, Fr (· = R) W10 wz → Calls Tryz.prog 63 #[.agg (lv9A a0 a1 a2 a3 a4 a5 a6 a7 ok cur y b0 b1 tg A8 by_.length cp8)] wz fun e w' => e = .returned (.bool (zaE Y.x)) ∧ Nw wz w' := fun wz f => by
    rw [hYA]
    exact zeQ wz _ Y (hYI.fr f (fun j hj e => hj.2 e)) hYZ
   have hbd : ∀ wz, Fr (· = R) W10 wz → wz.cell? ⟨g, 1, none⟩ = some (.bool (!s16.isSome)) := fun wz f => by
    have rd5 : IsRR wz F g s16 := st10.rd.fr f (show g ≠ R by omega) (fun j hj e => by have := HFL.out j hj; omega)
    revert rd5
    cases s16 with
    | none => intro rd5; simpa using rd5.1.cell 1
    | some r => intro rd5; obtain ⟨A', cap', hb, _⟩ := rd5; simpa using hb.cell 1
   have hres : ∀ wz, Fr (· = R) W10 wz → ∃ y' : LetM, Ending.returned (.tuple #[.agg (lv9A a0 a1 a2 a3 a4 a5 a6 a7 ok cur y b0 b1 tg A8 by_.length cp8), .bool good]) = .returned (.tuple #[.agg (letA y'), .bool good]) ∧ y'.x = xx ∧ za3 wz (zab w) y' ∧ za8 y' ∧ RRTo w F g se wz := fun wz f =>
    ⟨Y, by rw [hYA], hx1.symm, (hYI.fr f (fun j hj e => hj.2 e)).mono (fun j hj _ => hj.1), hYZ, by rw [hse]; exact ⟨st10.rd.fr f (show g ≠ R by omega) (fun j hj e => by have := HFL.out j hj; omega), st10.fr.trans f (fun j hj => .inr (by omega))⟩⟩
   have HLX := Lib.hid hlx
   have HST := Lib.hid hst
   have HRG := Lib.hid hrg
   have HRES := Lib.hid hres
   have HGO := Lib.hid hgood
   have HBO := Lib.hid hbd
   have hdr : RxC W10 R (lv9A a0 a1 a2 a3 a4 a5 a6 a7 ok cur y b0 b1 tg A8 by_.length cp8) (fun _ => false) W10.drew := ⟨fun _ => (Fr.refl (fun _ => False) W10).drew, (Fr.refl (· = R) W10).drew, fun e => by cases e⟩
   clear hlx hst hrg hres hgood hbd hYA hYx hYI hYZ hY hx1 hse st10 r10 k1 k2 k3 kk hb8
   cases eok with
   | false =>
    have hgd : good = false := HGO.out
    have HGD := Lib.hid hgd
    clear hgd
    refine zcL (RxC W10 R (lv9A a0 a1 a2 a3 a4 a5 a6 a7 ok cur y b0 b1 tg A8 by_.length cp8)) (by kernel_rfl) (by kernel_rfl) hdr ?_
    clear hdr
    refine za4 (v := .agg (lv9A a0 a1 a2 a3 a4 a5 a6 a7 ok cur y b0 b1 tg A8 by_.length cp8)) ?_ ?_
    focus
     intro L wz hL hD hC
     refine .inl ⟨by rfl, ?_⟩
     exact zaC 50 _ rfl X 0 rfl (lv9L a0 a1 a2 a3 a4 a5 a6 a7 ok cur y b0 b1 tg A8 by_.length cp8) _ (HLX.out _ hC.2.1) Tryz.underlying50 rfl (by kernel_rfl) (hC.keep (by rfl))
    simp only [Act.put, sA9, sB9, sC9]
    apply za4
    focus
     intro L wz hL hD hC
     refine .inl ⟨by rfl, ?_⟩
     unfold za2
     go_simp
     exact ⟨rfl, hC.keep (by rfl)⟩
    simp only [Act.put, sA9, sB9, sC9]
    apply za4
    focus
     intro L wz hL hD hC
     refine .inl ⟨by rfl, ?_⟩
     unfold za2
     go_simp
     exact ⟨rfl, hC.keep (by rfl)⟩
    simp only [Act.put, sA9, sB9, sC9]
    refine za4 (v := undef) ?_ ?_
    focus
     intro L wz hL hD hC
     exact .inr ⟨by rfl, rfl, hC.keep (by rfl)⟩
    simp only [Act.put, sA9, sB9, sC9]
    apply za4
    focus
     intro L wz hL hD hC
     refine .inl ⟨by rfl, ?_⟩
     unfold za2
     go_simp
     exact ⟨rfl, hC.keep (by rfl)⟩
    simp only [Act.put, sA9, sB9, sC9]
    apply za4
    focus
     intro L wz hL hD hC
     refine .inl ⟨by rfl, ?_⟩
     unfold za2
     go_simp
     exact ⟨rfl, hC.keep (by rfl)⟩
    simp only [Act.put, sA9, sB9, sC9]
    refine za4 (v := undef) ?_ ?_
    focus
     intro L wz hL hD hC
     exact .inr ⟨by rfl, rfl, hC.keep (by rfl)⟩
    simp only [Act.put, sA9, sB9, sC9]
    refine za4 (v := undef) ?_ ?_
    focus
     intro L wz hL hD hC
     exact .inr ⟨by rfl, rfl, hC.keep (by rfl)⟩
    simp only [Act.put, sA9, sB9, sC9]
    refine za4 (v := undef) ?_ ?_
    focus
     intro L wz hL hD hC
     exact .inr ⟨by rfl, rfl, hC.keep (by rfl)⟩
    simp only [Act.put, sA9, sB9, sC9]
    refine za4 (v := undef) ?_ ?_
    focus
     intro L wz hL hD hC
     exact .inr ⟨by rfl, rfl, hC.keep (by rfl)⟩
    simp only [Act.put, sA9, sB9, sC9]
    refine za4 (v := undef) ?_ ?_
    focus
     intro L wz hL hD hC
     exact .inr ⟨by rfl, rfl, hC.keep (by rfl)⟩
    simp only [Act.put, sA9, sB9, sC9]
    apply za4
    focus
     intro L wz hL hD hC
     refine .inl ⟨by rfl, ?_⟩
     unfold za2
     go_simp
     exact ⟨rfl, hC.keep (by rfl)⟩
    simp only [Act.put, sA9, sB9, sC9]
    apply za4
    focus
     intro L wz hL hD hC
     refine .inl ⟨by rfl, ?_⟩
     unfold za2
     go_simp
     exact ⟨rfl, hC.keep (by rfl)⟩
    simp only [Act.put, sA9, sB9, sC9]
    refine za4 (v := undef) ?_ ?_
    focus
     intro L wz hL hD hC
     exact .inr ⟨by rfl, rfl, hC.keep (by rfl)⟩
    simp only [Act.put, sA9, sB9, sC9]
    refine za4 (v := undef) ?_ ?_
    focus
     intro L wz hL hD hC
     exact .inr ⟨by rfl, rfl, hC.keep (by rfl)⟩
    simp only [Act.put, sA9, sB9, sC9]
    apply za4
    focus
     intro L wz hL hD hC
     refine .inl ⟨by rfl, ?_⟩
     unfold za2
     go_simp
     exact ⟨rfl, hC.keep (by rfl)⟩
    simp only [Act.put, sA9, sB9, sC9]
    refine za4 (v := undef) ?_ ?_
    focus
     intro L wz hL hD hC
     obtain ⟨ht, hs⟩ := HST.out _ (hC.1 hL)
     refine .inl ⟨by rfl, ?_⟩
     exact zbx 50 _ _ rfl R 0 (lv9A a0 a1 a2 a3 a4 a5 a6 a7 ok cur y b0 b1 tg A8 by_.length cp8) rfl rfl ht (by kernel_rfl) oneY ⟨fun e => (by rw [zbE] at e; cases e), hC.2.1.setCells _ _, fun _ => hs⟩
    simp only [Act.put, sA9, sB9, sC9]
    apply za4
    focus
     intro L wz hL hD hC
     refine .inl ⟨by rfl, ?_⟩
     unfold za2
     go_simp
     exact ⟨rfl, hC.keep (by rfl)⟩
    simp only [Act.put, sA9, sB9, sC9]
    refine zdR fun wz hC => ?_
    have HC := Lib.hid hC
    clear hC
    go_wp2_with fail
    refine bodyPost_ret (v := .tuple #[.agg (lv9A a0 a1 a2 a3 a4 a5 a6 a7 ok cur y b0 b1 tg A8 by_.length cp8), .bool good]) ?_ rfl ?_
    ·exact zan rfl _ _ R 50 _ (0, 0) _ _ rfl (by rw [HGD.out]; rfl) (HC.out.2.2 rfl) Tryz.underlying50 rfl (by kernel_rfl)
    exact HRES.out _ HC.out.2.1
   | true =>
    cases bok with
    | false =>
     have hgd : good = false := HGO.out
     have HGD := Lib.hid hgd
     clear hgd
     refine zcL (RxC W10 R (lv9A a0 a1 a2 a3 a4 a5 a6 a7 ok cur y b0 b1 tg A8 by_.length cp8)) (by kernel_rfl) (by kernel_rfl) hdr ?_
     clear hdr
     refine za4 (v := .agg (lv9A a0 a1 a2 a3 a4 a5 a6 a7 ok cur y b0 b1 tg A8 by_.length cp8)) ?_ ?_
     focus
      intro L wz hL hD hC
      refine .inl ⟨by rfl, ?_⟩
      exact zaC 50 _ rfl X 0 rfl (lv9L a0 a1 a2 a3 a4 a5 a6 a7 ok cur y b0 b1 tg A8 by_.length cp8) _ (HLX.out _ hC.2.1) Tryz.underlying50 rfl (by kernel_rfl) (hC.keep (by rfl))
     simp only [Act.put, sA9, sB9, sC9]
     apply za4
     focus
      intro L wz hL hD hC
      refine .inl ⟨by rfl, ?_⟩
      unfold za2
      go_simp
      exact ⟨rfl, hC.keep (by rfl)⟩
     simp only [Act.put, sA9, sB9, sC9]
     apply za4
     focus
      intro L wz hL hD hC
      refine .inl ⟨by rfl, ?_⟩
      unfold za2
      go_simp
      exact ⟨rfl, hC.keep (by rfl)⟩
     simp only [Act.put, sA9, sB9, sC9]
     apply za4
     focus
      intro L wz hL hD hC
      refine .inl ⟨by rfl, ?_⟩
      unfold za2
      go_simp
      exact ⟨rfl, hC.keep (by rfl)⟩
     simp only [Act.put, sA9, sB9, sC9]
     apply za4
     focus
      intro L wz hL hD hC
      refine .inl ⟨by rfl, ?_⟩
      unfold za2
      go_simp
      exact ⟨rfl, hC.keep (by rfl)⟩
     simp only [Act.put, sA9, sB9, sC9]
     apply za4
     focus
      intro L wz hL hD hC
      refine .inl ⟨by rfl, ?_⟩
      unfold za2
      go_simp
      exact ⟨rfl, hC.keep (by rfl)⟩
     simp only [Act.put, sA9, sB9, sC9]
     refine za4 (v := undef) ?_ ?_
     focus
      intro L wz hL hD hC
      exact .inr ⟨by rfl, rfl, hC.keep (by rfl)⟩
     simp only [Act.put, sA9, sB9, sC9]
     refine za4 (v := undef) ?_ ?_
     focus
      intro L wz hL hD hC
      exact .inr ⟨by rfl, rfl, hC.keep (by rfl)⟩
     simp only [Act.put, sA9, sB9, sC9]
     refine za4 (v := undef) ?_ ?_
     focus
      intro L wz hL hD hC
      exact .inr ⟨by rfl, rfl, hC.keep (by rfl)⟩
     simp only [Act.put, sA9, sB9, sC9]
     refine za4 (v := undef) ?_ ?_
     focus
      intro L wz hL hD hC
      exact .inr ⟨by rfl, rfl, hC.keep (by rfl)⟩
     simp only [Act.put, sA9, sB9, sC9]
     refine za4 (v := undef) ?_ ?_
     focus
      intro L wz hL hD hC
      exact .inr ⟨by rfl, rfl, hC.keep (by rfl)⟩
     simp only [Act.put, sA9, sB9, sC9]
     apply za4
     focus
      intro L wz hL hD hC
      refine .inl ⟨by rfl, ?_⟩
      unfold za2
      go_simp
      exact ⟨rfl, hC.keep (by rfl)⟩
     simp only [Act.put, sA9, sB9, sC9]
     apply za4
     focus
      intro L wz hL hD hC
      refine .inl ⟨by rfl, ?_⟩
      unfold za2
      go_simp
      exact ⟨rfl, hC.keep (by rfl)⟩
     simp only [Act.put, sA9, sB9, sC9]
     refine za4 (v := undef) ?_ ?_
     focus
      intro L wz hL hD hC
      exact .inr ⟨by rfl, rfl, hC.keep (by rfl)⟩
     simp only [Act.put, sA9, sB9, sC9]
     refine za4 (v := undef) ?_ ?_
     focus
      intro L wz hL hD hC
      exact .inr ⟨by rfl, rfl, hC.keep (by rfl)⟩
     simp only [Act.put, sA9, sB9, sC9]
     apply za4
     focus
      intro L wz hL hD hC
      refine .inl ⟨by rfl, ?_⟩
      unfold za2
      go_simp
      exact ⟨rfl, hC.keep (by rfl)⟩
     simp only [Act.put, sA9, sB9, sC9]
     refine za4 (v := undef) ?_ ?_
     focus
      intro L wz hL hD hC
      obtain ⟨ht, hs⟩ := HST.out _ (hC.1 hL)
      refine .inl ⟨by rfl, ?_⟩
      exact zbx 50 _ _ rfl R 0 (lv9A a0 a1 a2 a3 a4 a5 a6 a7 ok cur y b0 b1 tg A8 by_.length cp8) rfl rfl ht (by kernel_rfl) oneY ⟨fun e => (by rw [zbE] at e; cases e), hC.2.1.setCells _ _, fun _ => hs⟩
     simp only [Act.put, sA9, sB9, sC9]
     apply za4
     focus
      intro L wz hL hD hC
      refine .inl ⟨by rfl, ?_⟩
      unfold za2
      go_simp
      exact ⟨rfl, hC.keep (by rfl)⟩
     simp only [Act.put, sA9, sB9, sC9]
     refine zdR fun wz hC => ?_
     have HC := Lib.hid hC
     clear hC
     go_wp2_with fail
     refine bodyPost_ret (v := .tuple #[.agg (lv9A a0 a1 a2 a3 a4 a5 a6 a7 ok cur y b0 b1 tg A8 by_.length cp8), .bool good]) ?_ rfl ?_
     ·exact zan rfl _ _ R 50 _ (0, 0) _ _ rfl (by rw [HGD.out]; rfl) (HC.out.2.2 rfl) Tryz.underlying50 rfl (by kernel_rfl)
     exact HRES.out _ HC.out.2.1
    | true =>
     cases s16 with
     | none =>
      have hgd : good = false := HGO.out
      have hbd : ∀ wz, Fr (· = R) W10 wz → wz.cell? ⟨g, 1, none⟩ = some (.bool true) := HBO.out
      have HGD := Lib.hid hgd
      have HBD := Lib.hid hbd
      clear hgd hbd
      refine zcL (RxC W10 R (lv9A a0 a1 a2 a3 a4 a5 a6 a7 ok cur y b0 b1 tg A8 by_.length cp8)) (by kernel_rfl) (by kernel_rfl) hdr ?_
      clear hdr
      refine za4 (v := .agg (lv9A a0 a1 a2 a3 a4 a5 a6 a7 ok cur y b0 b1 tg A8 by_.length cp8)) ?_ ?_
      focus
       intro L wz hL hD hC
       refine .inl ⟨by rfl, ?_⟩
       exact zaC 50 _ rfl X 0 rfl (lv9L a0 a1 a2 a3 a4 a5 a6 a7 ok cur y b0 b1 tg A8 by_.length cp8) _ (HLX.out _ hC.2.1) Tryz.underlying50 rfl (by kernel_rfl) (hC.keep (by rfl))
      simp only [Act.put, sA9, sB9, sC9]
      apply za4
      focus
       intro L wz hL hD hC
       refine .inl ⟨by rfl, ?_⟩
       unfold za2
       go_simp
       exact ⟨rfl, hC.keep (by rfl)⟩
      simp only [Act.put, sA9, sB9, sC9]
      apply za4
      focus
       intro L wz hL hD hC
       refine .inl ⟨by rfl, ?_⟩
       unfold za2
       go_simp
       exact ⟨rfl, hC.keep (by rfl)⟩
      simp only [Act.put, sA9, sB9, sC9]
      apply za4
      focus
       intro L wz hL hD hC
       refine .inl ⟨by rfl, ?_⟩
       unfold za2
       go_simp
       exact ⟨rfl, hC.keep (by rfl)⟩
      simp only [Act.put, sA9, sB9, sC9]
      apply za4
      focus
       intro L wz hL hD hC
       refine .inl ⟨by rfl, ?_⟩
       unfold za2
       go_simp
       exact ⟨rfl, hC.keep (by rfl)⟩
      simp only [Act.put, sA9, sB9, sC9]
      apply za4
      focus
       intro L wz hL hD hC
       refine .inl ⟨by rfl, ?_⟩
       unfold za2
       go_simp
       exact ⟨rfl, hC.keep (by rfl)⟩
      simp only [Act.put, sA9, sB9, sC9]
      apply za4
      focus
       intro L wz hL hD hC
       refine .inl ⟨by rfl, ?_⟩
       unfold za2
       go_simp
       exact ⟨rfl, hC.keep (by rfl)⟩
      simp only [Act.put, sA9, sB9, sC9]
      apply za4
      focus
       intro L wz hL hD hC
       refine .inl ⟨by rfl, ?_⟩
       unfold za2
       go_simp
       exact ⟨rfl, hC.keep (by rfl)⟩
      simp only [Act.put, sA9, sB9, sC9]
      apply za4
      focus
       intro L wz hL hD hC
       refine .inl ⟨by rfl, ?_⟩
       unfold za2
       go_simp
       exact ⟨rfl, hC.keep (by rfl)⟩
      simp only [Act.put, sA9, sB9, sC9]
      apply za4
      focus
       intro L wz hL hD hC
       have hb := HBD.out _ hC.2.1
       refine .inl ⟨by rfl, ?_⟩
       unfold za2
       go_simp
       exact ⟨rfl, hC.keep (by rfl)⟩
      simp only [Act.put, sA9, sB9, sC9]
      apply za4
      focus
       intro L wz hL hD hC
       refine .inl ⟨by rfl, ?_⟩
       unfold za2
       go_simp
       exact ⟨rfl, hC.keep (by rfl)⟩
      simp only [Act.put, sA9, sB9, sC9]
      apply za4
      focus
       intro L wz hL hD hC
       refine .inl ⟨by rfl, ?_⟩
       unfold za2
       go_simp
       exact ⟨rfl, hC.keep (by rfl)⟩
      simp only [Act.put, sA9, sB9, sC9]
      apply za4
      focus
       intro L wz hL hD hC
       refine .inl ⟨by rfl, ?_⟩
       unfold za2
       go_simp
       exact ⟨rfl, hC.keep (by rfl)⟩
      simp only [Act.put, sA9, sB9, sC9]
      refine za4 (v := undef) ?_ ?_
      focus
       intro L wz hL hD hC
       exact .inr ⟨by rfl, rfl, hC.keep (by rfl)⟩
      simp only [Act.put, sA9, sB9, sC9]
      refine za4 (v := undef) ?_ ?_
      focus
       intro L wz hL hD hC
       exact .inr ⟨by rfl, rfl, hC.keep (by rfl)⟩
      simp only [Act.put, sA9, sB9, sC9]
      apply za4
      focus
       intro L wz hL hD hC
       refine .inl ⟨by rfl, ?_⟩
       unfold za2
       go_simp
       exact ⟨rfl, hC.keep (by rfl)⟩
      simp only [Act.put, sA9, sB9, sC9]
      refine za4 (v := undef) ?_ ?_
      focus
       intro L wz hL hD hC
       obtain ⟨ht, hs⟩ := HST.out _ (hC.1 hL)
       refine .inl ⟨by rfl, ?_⟩
       exact zbx 50 _ _ rfl R 0 (lv9A a0 a1 a2 a3 a4 a5 a6 a7 ok cur y b0 b1 tg A8 by_.length cp8) rfl rfl ht (by kernel_rfl) oneY ⟨fun e => (by rw [zbE] at e; cases e), hC.2.1.setCells _ _, fun _ => hs⟩
      simp only [Act.put, sA9, sB9, sC9]
      apply za4
      focus
       intro L wz hL hD hC
       refine .inl ⟨by rfl, ?_⟩
       unfold za2
       go_simp
       exact ⟨rfl, hC.keep (by rfl)⟩
      simp only [Act.put, sA9, sB9, sC9]
      refine zdR fun wz hC => ?_
      have HC := Lib.hid hC
      clear hC
      go_wp2_with fail
      refine bodyPost_ret (v := .tuple #[.agg (lv9A a0 a1 a2 a3 a4 a5 a6 a7 ok cur y b0 b1 tg A8 by_.length cp8), .bool good]) ?_ rfl ?_
      ·exact zan rfl _ _ R 50 _ (0, 0) _ _ rfl (by rw [HGD.out]; rfl) (HC.out.2.2 rfl) Tryz.underlying50 rfl (by kernel_rfl)
      exact HRES.out _ HC.out.2.1
     | some rr =>
      have hgd : good = zaE Y.x := HGO.out
      have hbd : ∀ wz, Fr (· = R) W10 wz → wz.cell? ⟨g, 1, none⟩ = some (.bool false) := HBO.out
      have HGD := Lib.hid hgd
      have HBD := Lib.hid hbd
      clear hgd hbd
      refine zcL (RxC W10 R (lv9A a0 a1 a2 a3 a4 a5 a6 a7 ok cur y b0 b1 tg A8 by_.length cp8)) (by kernel_rfl) (by kernel_rfl) hdr ?_
      clear hdr
      refine za4 (v := .agg (lv9A a0 a1 a2 a3 a4 a5 a6 a7 ok cur y b0 b1 tg A8 by_.length cp8)) ?_ ?_
      focus
       intro L wz hL hD hC
       refine .inl ⟨by rfl, ?_⟩
       exact zaC 50 _ rfl X 0 rfl (lv9L a0 a1 a2 a3 a4 a5 a6 a7 ok cur y b0 b1 tg A8 by_.length cp8) _ (HLX.out _ hC.2.1) Tryz.underlying50 rfl (by kernel_rfl) (hC.keep (by rfl))
      simp only [Act.put, sA9, sB9, sC9]
      apply za4
      focus
       intro L wz hL hD hC
       refine .inl ⟨by rfl, ?_⟩
       unfold za2
       go_simp
       exact ⟨rfl, hC.keep (by rfl)⟩
      simp only [Act.put, sA9, sB9, sC9]
      apply za4
      focus
       intro L wz hL hD hC
       refine .inl ⟨by rfl, ?_⟩
       unfold za2
       go_simp
       exact ⟨rfl, hC.keep (by rfl)⟩
      simp only [Act.put, sA9, sB9, sC9]
      apply za4
      focus
       intro L wz hL hD hC
       refine .inl ⟨by rfl, ?_⟩
       unfold za2
       go_simp
       exact ⟨rfl, hC.keep (by rfl)⟩
      simp only [Act.put, sA9, sB9, sC9]
      apply za4
      focus
       intro L wz hL hD hC
       refine .inl ⟨by rfl, ?_⟩
       unfold za2
       go_simp
       exact ⟨rfl, hC.keep (by rfl)⟩
      simp only [Act.put, sA9, sB9, sC9]
      apply za4
      focus
       intro L wz hL hD hC
       refine .inl ⟨by rfl, ?_⟩
       unfold za2
       go_simp
       exact ⟨rfl, hC.keep (by rfl)⟩
      simp only [Act.put, sA9, sB9, sC9]
      apply za4
      focus
       intro L wz hL hD hC
       refine .inl ⟨by rfl, ?_⟩
       unfold za2
       go_simp
       exact ⟨rfl, hC.keep (by rfl)⟩
      simp only [Act.put, sA9, sB9, sC9]
      apply za4
      focus
       intro L wz hL hD hC
       refine .inl ⟨by rfl, ?_⟩
       unfold za2
       go_simp
       exact ⟨rfl, hC.keep (by rfl)⟩
      simp only [Act.put, sA9, sB9, sC9]
      apply za4
      focus
       intro L wz hL hD hC
       refine .inl ⟨by rfl, ?_⟩
       unfold za2
       go_simp
       exact ⟨rfl, hC.keep (by rfl)⟩
      simp only [Act.put, sA9, sB9, sC9]
      apply za4
      focus
       intro L wz hL hD hC
       have hb := HBD.out _ hC.2.1
       refine .inl ⟨by rfl, ?_⟩
       unfold za2
       go_simp
       exact ⟨rfl, hC.keep (by rfl)⟩
      simp only [Act.put, sA9, sB9, sC9]
      apply za4
      focus
       intro L wz hL hD hC
       refine .inl ⟨by rfl, ?_⟩
       unfold za2
       go_simp
       exact ⟨rfl, hC.keep (by rfl)⟩
      simp only [Act.put, sA9, sB9, sC9]
      apply za4
      focus
       intro L wz hL hD hC
       refine .inl ⟨by rfl, ?_⟩
       unfold za2
       go_simp
       exact ⟨rfl, hC.keep (by rfl)⟩
      simp only [Act.put, sA9, sB9, sC9]
      apply za4
      focus
       intro L wz hL hD hC
       refine .inl ⟨by rfl, ?_⟩
       unfold za2
       go_simp
       exact ⟨rfl, hC.keep (by rfl)⟩
      simp only [Act.put, sA9, sB9, sC9]
      refine za4 (v := .agg (lv9A a0 a1 a2 a3 a4 a5 a6 a7 ok cur y b0 b1 tg A8 by_.length cp8)) ?_ ?_
      focus
       intro L wz hL hD hC
       refine .inl ⟨by rfl, ?_⟩
       exact zaC 50 _ rfl X 0 rfl (lv9L a0 a1 a2 a3 a4 a5 a6 a7 ok cur y b0 b1 tg A8 by_.length cp8) _ (HLX.out _ hC.2.1) Tryz.underlying50 rfl (by kernel_rfl) (hC.keep (by rfl))
      simp only [Act.put, sA9, sB9, sC9]
      apply za4
      focus
       intro L wz hL hD hC
       refine .inl ⟨by rfl, ?_⟩
       unfold za2
       go_simp
       refine (HRG.out _ hC.2.1).mono ?_
       rintro e w9 ⟨he, q9⟩
       exact ⟨he, hC.nw (by rfl) q9⟩
      simp only [Act.put, sA9, sB9, sC9]
      apply za4
      focus
       intro L wz hL hD hC
       refine .inl ⟨by rfl, ?_⟩
       unfold za2
       go_simp
       exact ⟨rfl, hC.keep (by rfl)⟩
      simp only [Act.put, sA9, sB9, sC9]
      refine za4 (v := undef) ?_ ?_
      focus
       intro L wz hL hD hC
       obtain ⟨ht, hs⟩ := HST.out _ (hC.1 hL)
       refine .inl ⟨by rfl, ?_⟩
       exact zbx 50 _ _ rfl R 0 (lv9A a0 a1 a2 a3 a4 a5 a6 a7 ok cur y b0 b1 tg A8 by_.length cp8) rfl rfl ht (by kernel_rfl) oneY ⟨fun e => (by rw [zbE] at e; cases e), hC.2.1.setCells _ _, fun _ => hs⟩
      simp only [Act.put, sA9, sB9, sC9]
      apply za4
      focus
       intro L wz hL hD hC
       refine .inl ⟨by rfl, ?_⟩
       unfold za2
       go_simp
       exact ⟨rfl, hC.keep (by rfl)⟩
      simp only [Act.put, sA9, sB9, sC9]
      refine zdR fun wz hC => ?_
      have HC := Lib.hid hC
      clear hC
      go_wp2_with fail
      refine bodyPost_ret (v := .tuple #[.agg (lv9A a0 a1 a2 a3 a4 a5 a6 a7 ok cur y b0 b1 tg A8 by_.length cp8), .bool good]) ?_ rfl ?_
      ·exact zan rfl _ _ R 50 _ (0, 0) _ _ rfl (by rw [HGD.out]; rfl) (HC.out.2.2 rfl) Tryz.underlying50 rfl (by kernel_rfl)
      exact HRES.out _ HC.out.2.1
end Go.Proofs.YtippdjaakcgeoaaGreat
