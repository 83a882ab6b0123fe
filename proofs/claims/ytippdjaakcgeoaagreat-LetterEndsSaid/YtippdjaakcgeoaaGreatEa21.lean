/- Lemmas of the walks: GdG. (Laid together by shake.py.) -/
import Derived.Test.YtippdjaakcgeoaaGreatEa06
import Derived.Test.YtippdjaakcgeoaaGreatEa14
import Derived.Test.YtippdjaakcgeoaaGreatEa15
import Derived.Test.YtippdjaakcgeoaaGreatEa16
import Derived.Test.YtippdjaakcgeoaaGreatEa20
set_option linter.unusedVariables false
set_option linter.unusedSimpArgs false
set_option maxRecDepth 100000
set_option maxHeartbeats 16000000
namespace Go.Proofs.YtippdjaakcgeoaaGreat
open Go Go.RowKit
def LetRd (w : World) (F : Nat → Prop) (g : Nat) (p : Option (LetF × Rd)) (e : Ending) (w' : World) : Prop := Fr (· = g) w w' ∧ match p with
 | none => e = .panicked [zeH]
 | some (x, s') => ∃ y : LetM, e = .returned (.agg (letA y)) ∧ y.x = x ∧ zbg w' (zab w) y ∧ za8 y ∧ IsRd w' F g s'
theorem zaW.read {y : EntM} {s : Rd} (h : y.x = (zbb s).1) : zaW y := by
 unfold zbb at h
 split at h
 ·have a1 : y.cmd.l = (zb1 131072 (za1 255 (za1 1073741824 s).2).2).1 := congrArg Ent.cmd h
  have a2 : y.cfg.x = (zat (zb1 131072 (za1 255 (za1 1073741824 s).2).2).2).1 := congrArg Ent.cfg h
  have b1 := zdU 131072 (by omega) (za1 255 (za1 1073741824 s).2).2
  exact ⟨by rw [a1]; omega, zdJ a2⟩
 ·have a1 : y.cmd.l = [] := congrArg Ent.cmd h
  have a2 : y.cfg.x = ⟨[], [], [], []⟩ := congrArg Ent.cfg h
  have b1 : y.cfg.v.l = [] := congrArg Cfg.v a2
  have b2 : y.cfg.o.l = [] := congrArg Cfg.o a2
  have b3 : y.cfg.l.l = [] := congrArg Cfg.l a2
  have b4 : y.cfg.w.l = [] := congrArg Cfg.w a2
  exact ⟨by rw [a1]; simp, ⟨by rw [b1]; simp, by rw [b2]; simp, by rw [b3]; simp, by rw [b4]; simp⟩⟩
theorem zaY.readB {y : BasM} {s : Rd} (h : y.x = (zbu s).1) : zaY y.cfg := by
 unfold zbu at h
 split at h
 ·have a2 : y.cfg.x = (zat (za1 1073741824 (za1 1073741824 s).2).2).1 := congrArg Bas.cfg h
  exact zdJ a2
 ·have a2 : y.cfg.x = ⟨[], [], [], []⟩ := congrArg Bas.cfg h
  have b1 : y.cfg.v.l = [] := congrArg Cfg.v a2
  have b2 : y.cfg.o.l = [] := congrArg Cfg.o a2
  have b3 : y.cfg.l.l = [] := congrArg Cfg.l a2
  have b4 : y.cfg.w.l = [] := congrArg Cfg.w a2
  exact ⟨by rw [b1]; simp, by rw [b2]; simp, by rw [b3]; simp, by rw [b4]; simp⟩
def zc7 (T : Bool → Bool → Bool → World → Prop) (L : Nat → Bool) (w : World) : Prop := T (L 4) (L 6) (L 8) w
section
variable {T : Bool → Bool → Bool → World → Prop} {L : Nat → Bool} {w : World}
theorem zc7.keep (h : zc7 T L w) {j : Nat} (n4 : (4 != j) = true) (n6 : (6 != j) = true) (n8 : (8 != j) = true) : zc7 T (onL L j) w := by
 unfold zc7
 rw [zaN n4, zaN n6, zaN n8]
 exact h
theorem zc7.c4 (h : zc7 T L w) (hL : L 4 = false) : T false (L 6) (L 8) w ∧ ∀ w', T true (L 6) (L 8) w' → zc7 T (onL L 4) w' := by
 unfold zc7 at h
 rw [hL] at h
 refine ⟨h, fun w' h' => ?_⟩
 unfold zc7
 rw [zbE, zaN (j := 4) (k := 6) rfl, zaN (j := 4) (k := 8) rfl]
 exact h'
theorem zc7.c6 (h : zc7 T L w) (hL : L 6 = false) : T (L 4) false (L 8) w ∧ ∀ w', T (L 4) true (L 8) w' → zc7 T (onL L 6) w' := by
 unfold zc7 at h
 rw [hL] at h
 refine ⟨h, fun w' h' => ?_⟩
 unfold zc7
 rw [zbE, zaN (j := 6) (k := 4) rfl, zaN (j := 6) (k := 8) rfl]
 exact h'
theorem zc7.c8 (h : zc7 T L w) (hL : L 8 = false) : T (L 4) (L 6) false w ∧ ∀ w', T (L 4) (L 6) true w' → zc7 T (onL L 8) w' := by
 unfold zc7 at h
 rw [hL] at h
 refine ⟨h, fun w' h' => ?_⟩
 unfold zc7
 rw [zbE, zaN (j := 8) (k := 4) rfl, zaN (j := 8) (k := 6) rfl]
 exact h'
end
def LeRel (w W : World) (F : Nat → Prop) (g X : Nat) (KK : World → Prop) (cells : Value → Array Value) (s3 : Rd) (n : Nat) (i : Value) (wr : World) : Prop :=
 ∃ (k : Nat) (cur : Ls EntM), k ≤ n ∧ i = .int .i64 k ∧ cur.l.length = k ∧ RSt true w wr F g X 50 KK (zam k s3).2 (cells (.slice cur.a cur.l.length cur.c)) ∧ zao W wr 87 7 zal cur ∧
  zbK wr (fun j => W.heap.size ≤ j ∧ ¬ inA cur.a j) cur.l ∧ (∀ e ∈ cur.l, zaW e) ∧ cur.l.map EntM.x = (zam k s3).1.1 ∧ (zam k s3).1.2 = true ∧ W.heap.size ≤ wr.heap.size
theorem zfs : (Tryz.prog.info? 87).map (fun i => (i.zero, i.size, i.bytes)) = some (some (.agg zE9A), 7, 136) := by kernel_rfl
theorem zhk : (Tryz.prog.info? 50).map (fun i => (i.zero, i.size, i.bytes)) = some (some (.agg zL9A), 20, 256) := by kernel_rfl
theorem zi4 (w : World) (F : Nat → Prop) (g : Nat) (s : Rd) (h : IsRd w F g s) (hsz : zav s ≤ 1000000000000) :
  Calls Tryz.prog 99 #[.agg #[.pointer (some ⟨g, 0, none⟩)]] w fun e w' => LetRd w F g (zcK s) e w' := by
 obtain ⟨p, hP⟩ : ∃ p, zcK s = p := ⟨_, rfl⟩
 rw [hP]
 unfold zcK at hP
 have l1 := Nat.le_trans (zdn 1073741824 8 s) hsz
 have len1 := zhp 1073741824 8 s
 obtain ⟨⟨hs, s1⟩, hq1⟩ : ∃ q, rdNs 1073741824 8 s = q := ⟨_, rfl⟩
 simp only [hq1] at hP l1 len1
 have m1 := zbR 1073741824 s (by omega)
 have cons1 := zhg 1073741824 7 s
 rw [hq1] at cons1
 obtain ⟨a0, a1, a2, a3, a4, a5, a6, a7, rfl⟩ : ∃ a0 a1 a2 a3 a4 a5 a6 a7, hs = [a0, a1, a2, a3, a4, a5, a6, a7] := by
  match hs, len1 with
  | [a0, a1, a2, a3, a4, a5, a6, a7], _ => exact ⟨a0, a1, a2, a3, a4, a5, a6, a7, rfl⟩
 have ha0 : 0 ≤ a0 := by
  have := congrArg (fun q => q.1.head?) cons1
  simp only [List.head?_cons, Option.some.injEq] at this
  rw [this]
  exact m1.1
 simp only [List.getD_cons_zero, List.getD_cons_succ] at hP
 have n2 := fun w1 h1 => zk6 w1 F g s1 h1
 have l2 := Nat.le_trans (zev s1) l1
 obtain ⟨⟨ok, s2⟩, hq2⟩ : ∃ q, zaK s1 = q := ⟨_, rfl⟩
 simp only [hq2] at n2 l2 hP
 have n3 := fun w1 h1 => zb5 w1 F g s2 h1 30
 have m3 := zbR 30 s2 (by omega)
 have l3 := Nat.le_trans (zap 30 s2) l2
 obtain ⟨⟨nn, s3⟩, hq3⟩ : ∃ q, za1 30 s2 = q := ⟨_, rfl⟩
 simp only [hq3] at n3 m3 l3 hP
 obtain ⟨n, rfl⟩ : ∃ n : Nat, nn = (n : Int) := ⟨nn.toNat, by omega⟩
 have hn30 : n ≤ 30 := by omega
 simp only [Int.toNat_natCast] at hP
 have n4 := fun k w1 h1 => zky w1 F g (zam k s3).2 h1 (Nat.le_trans (zd9 k s3) l3)
 have l4 := Nat.le_trans (zd9 n s3) l3
 have bad4 := fun k (h : (zam k s3).1.2 = false) (hk : k ≤ n) => zjS h hk
 obtain ⟨⟨⟨es, eok⟩, s4⟩, hq4⟩ : ∃ q, zam n s3 = q := ⟨_, rfl⟩
 simp only [hq4] at l4 bad4 hP
 have n5 := fun w1 h1 => zhR w1 F g s4 h1
 have l5 := Nat.le_trans (zex s4) l4
 have sz5 := fun (y : BasM) (h : y.x = (zbu s4).1) => zaY.readB h
 obtain ⟨⟨bs, bok⟩, hq5⟩ : ∃ q, zbu s4 = q := ⟨_, rfl⟩
 obtain ⟨s5, hq5'⟩ : ∃ q, (zb8 s4).2 = q := ⟨_, rfl⟩
 simp only [hq5, hq5'] at n5 l5 sz5 hP
 have l6 := Nat.le_trans (zdn 1073741824 2 s5) l5
 have len6 := zhp 1073741824 2 s5
 obtain ⟨⟨qs, s6⟩, hq6⟩ : ∃ q, rdNs 1073741824 2 s5 = q := ⟨_, rfl⟩
 simp only [hq6] at hP l6 len6
 obtain ⟨b0, b1, rfl⟩ : ∃ b0 b1, qs = [b0, b1] := by
  match qs, len6 with
  | [b0, b1], _ => exact ⟨b0, b1, rfl⟩
 simp only [List.getD_cons_zero, List.getD_cons_succ] at hP
 have n7 := fun w1 h1 => zb5 w1 F g s6 h1 4611686018427387903
 have l7 := Nat.le_trans (zap 4611686018427387903 s6) l6
 obtain ⟨⟨tg, s7⟩, hq7⟩ : ∃ q, za1 4611686018427387903 s6 = q := ⟨_, rfl⟩
 simp only [hq7] at n7 l7 hP
 have n8 := fun w1 h1 => zhu w1 F g s7 h1 131072 l7
 have m8 := zdU 131072 (by omega) s7
 obtain ⟨⟨by_, s8⟩, hq8⟩ : ∃ q, zb1 131072 s7 = q := ⟨_, rfl⟩
 simp only [hq8] at n8 m8 hP
 have N2 := Lib.hid n2
 have N3 := Lib.hid n3
 have N4 := Lib.hid n4
 have B4 := Lib.hid bad4
 have Q4 := Lib.hid hq4
 have N5 := Lib.hid n5
 have Z5 := Lib.hid sz5
 have Q6 := Lib.hid hq6
 have N7 := Lib.hid n7
 have N8 := Lib.hid n8
 have M8 := Lib.hid m8
 have Q1 := Lib.hid hq1
 have HP := Lib.hid hP
 clear l1 l2 l3 l4 l5 l6 l7 len1 len6 n2 n3 n4 n5 n7 n8 m8 bad4 hq4 sz5 hq6 hq1 hP hq2 hq3 hq5 hq5' hq7 hq8 m3 m1 cons1
 have hgl := h.lt
 have hFl := h.out.2
 obtain ⟨sb, hsb⟩ : ∃ X, X = w.heap.size := ⟨_, rfl⟩
 obtain ⟨R, hR⟩ : ∃ X, X = w.heap.size + 1 := ⟨_, rfl⟩
 obtain ⟨X, hX⟩ : ∃ X, X = w.heap.size + 1 + 1 := ⟨_, rfl⟩
 obtain ⟨kb, hkb⟩ : ∃ X, X = w.heap.size + 1 + 1 + 1 := ⟨_, rfl⟩
 obtain ⟨Ws, hWs⟩ : ∃ W, W = w.alloc (.cells #[.pointer (some ⟨g, 0, none⟩)] 148) := ⟨_, rfl⟩
 have ps : Nw w Ws := by rw [hWs]; exact (Fr.refl (fun _ => False) _).alloc _
 have zs : Ws.heap.size = w.heap.size + 1 := by rw [hWs]; simp
 have bs0 : Blk Ws sb 148 #[.pointer (some ⟨g, 0, none⟩)] := by rw [hWs, hsb]; exact Blk.new _ _ _
 obtain ⟨Wr, hWr⟩ : ∃ W, W = Ws.alloc (.cells zL9A 50) := ⟨_, rfl⟩
 have pr : Nw Ws Wr := by rw [hWr]; exact (Fr.refl (fun _ => False) _).alloc _
 have zr : Wr.heap.size = w.heap.size + 1 + 1 := by rw [hWr]; simp [zs]
 have br0 : Blk Wr R 50 zL9A := by rw [hWr, hR, ← zs]; exact Blk.new _ _ _
 obtain ⟨Wx, hWx⟩ : ∃ W, W = Wr.alloc (.cells zL9A 50) := ⟨_, rfl⟩
 have px : Nw Wr Wx := by rw [hWx]; exact (Fr.refl (fun _ => False) _).alloc _
 have zx : Wx.heap.size = w.heap.size + 1 + 1 + 1 := by rw [hWx]; simp [zr]
 have bx0 : Blk Wx X 50 zL9A := by rw [hWx, hX, ← zr]; exact Blk.new _ _ _
 obtain ⟨Wk, hWk⟩ : ∃ W, W = Wx.alloc (.cells #[I64 0] 3) := ⟨_, rfl⟩
 have pk : Nw Wx Wk := by rw [hWk]; exact (Fr.refl (fun _ => False) _).alloc _
 have zk : Wk.heap.size = kb + 1 := by rw [hWk, hkb]; simp [zx]
 have bk0 : Blk Wk kb 3 #[I64 0] := by rw [hWk, hkb, ← zx]; exact Blk.new _ _ _
 obtain ⟨W0, hW0⟩ : ∃ W, W = Wk := ⟨_, rfl⟩
 have z0 : W0.heap.size = kb + 1 := by rw [hW0]; exact zk
 have K0 : Blk W0 kb 3 #[I64 0] := by rw [hW0]; exact bk0
 have X0 : Blk W0 X 50 zL9A := by rw [hW0]; exact bx0.fr pk (fun h => h)
 have R0 : Blk W0 R 50 zL9A := by rw [hW0]; exact (br0.fr px (fun h => h)).fr pk (fun h => h)
 have S0 : Blk W0 sb 148 #[.pointer (some ⟨g, 0, none⟩)] := by rw [hW0]; exact ((bs0.fr pr (fun h => h)).fr px (fun h => h)).fr pk (fun h => h)
 have T0 : Nw w W0 := by rw [hW0]; exact ((ps.tr pr).tr px).tr pk
 have h0 := h.fr T0 (fun h => h) (fun _ _ h => h)
 have hgs : g ≠ sb ∧ g ≠ R ∧ g ≠ X ∧ g ≠ kb := by omega
 have hss : sb ≠ R ∧ sb ≠ X ∧ sb ≠ kb ∧ R ≠ X ∧ R ≠ kb ∧ X ≠ kb := by omega
 have hws : w.heap.size ≤ sb ∧ w.heap.size ≤ R ∧ w.heap.size ≤ X ∧ w.heap.size ≤ kb := by omega
 have hlk : sb < kb + 1 ∧ R < kb + 1 ∧ X < kb + 1 ∧ kb < kb + 1 := by omega
 have hFk : ∀ k, F k → k < sb ∧ k < R ∧ k < X ∧ k < kb := fun k hk => by have := hFl k hk; omega
 obtain ⟨KK, hKK⟩ : ∃ K : World → Prop, K = fun wz => Blk wz sb 148 #[.pointer (some ⟨g, 0, none⟩)] ∧ Blk wz R 50 zL9A ∧ Blk wz kb 3 #[I64 a0] := ⟨_, rfl⟩
 have hKe : ∀ wz, KK wz → Blk wz sb 148 #[.pointer (some ⟨g, 0, none⟩)] ∧ Blk wz R 50 zL9A ∧ Blk wz kb 3 #[I64 a0] := fun wz hk => by rw [hKK] at hk; exact hk
 have hKi : ∀ wz, Blk wz sb 148 #[.pointer (some ⟨g, 0, none⟩)] ∧ Blk wz R 50 zL9A ∧ Blk wz kb 3 #[I64 a0] → KK wz := fun wz hk => by rw [hKK]; exact hk
 have hKs : ∀ a c, Fr (fun k => k = g ∨ k = X) a c → KK a → KK c := fun a c f hk => by
  obtain ⟨k1, k2, k3⟩ := hKe _ hk
  exact hKi _ ⟨k1.fr f (by omega), k2.fr f (by omega), k3.fr f (by omega)⟩
 have hnum : ∀ w1 gp, Nw W0 w1 → W0.heap.size ≤ gp → Sl w1 (· = gp) (some ⟨gp, 0, none⟩) [ptrV kb 0, ptrV X 1, ptrV X 2, ptrV X 3, ptrV X 4, ptrV X 5, ptrV X 6, ptrV X 7] → Calls Tryz.prog 165 #[.agg #[.pointer (some ⟨g, 0, none⟩)], .slice (some ⟨gp, 0, none⟩) 8 8] w1 fun e w' => e = .returned (.tuple #[]) ∧ RSt true w w' F g X 50 KK s1 #[U8V 0, I64 a1, I64 a2, I64 a3, I64 a4, I64 a5, I64 a6, I64 a7, .bool false, .slice none 0 0, I64 0, I64 0, .slice none 0 0, .slice none 0 0, .slice none 0 0, .slice none 0 0, I64 0, I64 0, I64 0, .slice none 0 0] := by
  intro w1 gp q1 hgp hsl
  have c := zhT w1 F (fun k => k = kb ∨ k = X) g s (h0.fr q1 (fun h => h) (fun _ _ h => h)) ((kb, 0) :: [1, 2, 3, 4, 5, 6, 7].map (fun o => (X, o))) (zfr kb X 50 zL9A [1, 2, 3, 4, 5, 6, 7])
   ⟨K0.fr q1 (fun h => h), X0.fr q1 (fun h => h)⟩ (fun l a c f h => ⟨h.1.fr f (by omega), h.2.fr f (by omega)⟩) (zfr.step (by omega) (by decide)) (fun p hp => ?_) (fun k hk => ?_) (by omega) (fun k hk => by have := hFk k hk; omega) (· = gp) (some ⟨gp, 0, none⟩) 8 hsl (fun k hk => by omega) (by simp)
  ·refine c.mono ?_
   rintro e w' ⟨rfl, r1, r2, r3⟩
   have e8 : ((kb, 0) :: [1, 2, 3, 4, 5, 6, 7].map (fun o => (X, o))).length = 8 := rfl
   rw [e8, Q1.out] at r1 r2
   refine ⟨rfl, r1, r2.2, hKi _ ⟨(S0.fr q1 (fun h => h)).fr r3 (by omega), (R0.fr q1 (fun h => h)).fr r3 (by omega), r2.1⟩, (Nw.on (T0.tr q1)).trans r3 (fun j hj => ?_), by omega, fun hf => by have := hFk _ hf; omega, by omega, hKs⟩
   rcases hj with rfl | rfl | rfl
   ·exact .inl rfl
   ·exact .inr (by omega)
   ·exact .inr (by omega)
  ·rcases List.mem_cons.1 hp with rfl | hp
   ·exact .inl rfl
   ·obtain ⟨o, _, rfl⟩ := List.mem_map.1 hp
    exact .inr rfl
  ·have := q1.size
   omega
 have hsc := S0.cell 0
 have HNUM := Lib.hid hnum
 have Hsb := Lib.hid hsb
 have HR := Lib.hid hR
 have HX := Lib.hid hX
 have Hkb := Lib.hid hkb
 have HWs := Lib.hid hWs
 have HWr := Lib.hid hWr
 have HWx := Lib.hid hWx
 have HWk := Lib.hid hWk
 have HW0 := Lib.hid hW0
 clear hnum hsb hR hX hkb hWs hWr hWx hWk hW0 hKK ps zs bs0 pr zr br0 px zx bx0 pk zk bk0 z0 K0 X0 R0 S0 h0
 simp at hsc
 go_enter Tryz.func99, Tryz.ntmps99
 go_upto_region 3 with (fail)
 rw [← Hkb.out, ← HX.out, ← HR.out, ← Hsb.out, ← HWs.out, ← HWr.out, ← HWx.out, ← HWk.out, ← HW0.out]
 go_upto_region 4 with (go_at_call 165; refine (HNUM.out _ W0.heap.size ((Fr.refl (fun _ => False) W0).alloc _) (Nat.le_refl _) ((Blk.new W0 _ _).sl 0 8)).mono ?_; rintro e w1 ⟨rfl, st1⟩; have kc1 : w1.cell? ⟨kb, 0, none⟩ = some (I64 a0) := (by simpa using (hKe _ st1.k).2.2.cell 0))
 clear HNUM hsc T0
 have sc1 : w1.cell? ⟨sb, 0, none⟩ = some (.pointer (some ⟨g, 0, none⟩)) := by simpa using (hKe _ st1.k).1.cell 0
 by_cases h256 : a0 < 256
 case neg =>
  have hm := zdH w1
  rw [← decide_eq_false h256] at hm
  have hpn : p = none := by rw [← HP.out]; exact if_neg (fun hh => h256 hh.1)
  have HM := Lib.hid hm
  have HPN := Lib.hid hpn
  clear hm hpn h256
  go_upto_region 5 with (go_at_call 97; refine HM.out.mono ?_; rintro e w2 ⟨rfl, rfl⟩)
  refine ⟨rfl, ?_⟩
  rw [HPN.out]
  exact ⟨st1.fr, rfl⟩
 have hkw : a0 % 256 = a0 := by omega
 have hwrap : IntKind.u8.wrap a0 = a0 := by first | (rw [IntKind.wrap_u8]; omega) | (simp [IntKind.wrap]; omega) | exact hkw
 have hm := zdl w1
 rw [← decide_eq_true h256] at hm
 have HM := Lib.hid hm
 have H256 := Lib.hid h256
 clear hm h256
 go_upto_region 5 with (go_at_call 97; refine HM.out.mono ?_; rintro e w2 ⟨rfl, rfl⟩)
 clear HM kc1 sc1
 refine zcL (zc7 fun c a b wz => RSt true w wz F g X 50 KK (bif c then s2 else s1) #[(bif a then U8V a0 else U8V 0), I64 a1, I64 a2, I64 a3, I64 a4, I64 a5, I64 a6, I64 a7, (bif b then .bool ok else .bool false), .slice none 0 0, I64 0, I64 0, .slice none 0 0, .slice none 0 0, .slice none 0 0, .slice none 0 0, I64 0, I64 0, I64 0, .slice none 0 0]) (by kernel_rfl) (by kernel_rfl) (st1.nw ((Fr.refl (fun _ => False) w1).drew)) ?_
 clear st1
 apply za4
 focus
  intro L wz hL hD hC
  have hx : wz.cell? ⟨kb, 0, none⟩ = some (I64 a0) := by simpa using (hKe _ (RSt.k hC)).2.2.cell 0
  refine .inl ⟨by rfl, ?_⟩
  unfold za2
  go_simp
  exact ⟨rfl, hC.keep (by rfl) (by rfl) (by rfl)⟩
 simp only [Act.put, sA9, sB9, sC9]
 apply za4
 focus
  intro L wz hL hD hC
  refine .inl ⟨by rfl, ?_⟩
  unfold za2
  go_simp
  exact ⟨rfl, hC.keep (by rfl) (by rfl) (by rfl)⟩
 simp only [Act.put, sA9, sB9, sC9]
 apply za4
 focus
  intro L wz hL hD hC
  refine .inl ⟨by rfl, ?_⟩
  unfold za2
  go_simp
  exact ⟨rfl, hC.keep (by rfl) (by rfl) (by rfl)⟩
 simp only [Act.put, sA9, sB9, sC9]
 apply za4
 focus
  intro L wz hL hD hC
  have hx : wz.cell? ⟨sb, 0, none⟩ = some (.pointer (some ⟨g, 0, none⟩)) := by simpa using (hKe _ (RSt.k hC)).1.cell 0
  refine .inl ⟨by rfl, ?_⟩
  unfold za2
  go_simp
  exact ⟨rfl, hC.keep (by rfl) (by rfl) (by rfl)⟩
 simp only [Act.put, sA9, sB9, sC9]
 apply za4
 focus
  intro L wz hL hD hC
  obtain ⟨h1, h2⟩ := hC.c4 hL
  refine .inl ⟨by rfl, ?_⟩
  unfold za2
  go_simp
  refine (N2.out _ h1.rd).mono ?_
  rintro e w9 ⟨he, hr9⟩
  exact ⟨he, h2 _ (RSt.callP h1 hr9)⟩
 simp only [Act.put, sA9, sB9, sC9]
 apply za4
 focus
  intro L wz hL hD hC
  refine .inl ⟨by rfl, ?_⟩
  unfold za2
  go_simp
  exact ⟨rfl, hC.keep (by rfl) (by rfl) (by rfl)⟩
 simp only [Act.put, sA9, sB9, sC9]
 apply za4
 focus
  intro L wz hL hD hC
  obtain ⟨h1, h2⟩ := hC.c6 hL
  have hx : wz.cell? ⟨X, 0, none⟩ = some (U8V 0) := by simpa using h1.x.cell 0
  have hf := h1.x.frozen 0
  refine .inl ⟨by rfl, ?_⟩
  unfold za2
  go_simp
  exact ⟨rfl, h2 _ (RSt.set_ h1 0 (U8V a0))⟩
 simp only [Act.put, sA9, sB9, sC9]
 apply za4
 focus
  intro L wz hL hD hC
  refine .inl ⟨by rfl, ?_⟩
  unfold za2
  go_simp
  exact ⟨rfl, hC.keep (by rfl) (by rfl) (by rfl)⟩
 simp only [Act.put, sA9, sB9, sC9]
 apply za4
 focus
  intro L wz hL hD hC
  obtain ⟨h1, h2⟩ := hC.c8 hL
  have hx : wz.cell? ⟨X, 8, none⟩ = some (.bool false) := by simpa using h1.x.cell 8
  have hf := h1.x.frozen 8
  refine .inl ⟨by rfl, ?_⟩
  unfold za2
  go_simp
  exact ⟨rfl, h2 _ (RSt.set_ h1 8 (.bool ok))⟩
 simp only [Act.put, sA9, sB9, sC9]
 refine zdR fun w2 hC => ?_
 have st2 : RSt true w w2 F g X 50 KK s2 #[U8V a0, I64 a1, I64 a2, I64 a3, I64 a4, I64 a5, I64 a6, I64 a7, .bool ok, .slice none 0 0, I64 0, I64 0, .slice none 0 0, .slice none 0 0, .slice none 0 0, .slice none 0 0, I64 0, I64 0, I64 0, .slice none 0 0] := hC
 clear hC hwrap
 have hag : ∀ (W : World), kb < W.heap.size → ∀ A, (∀ j, inA A j → W.heap.size ≤ j) → ∀ j, inA A j → j ≠ g ∧ j ≠ X ∧ j ≠ sb ∧ j ≠ R ∧ j ≠ kb ∧ w.heap.size ≤ j ∧ ¬ F j := fun W hW A hA j hj => by
  have h1 := hA j hj
  refine ⟨by omega, by omega, by omega, by omega, by omega, by omega, fun hf => ?_⟩
  have := hFk j hf
  omega
 have sc2 : w2.cell? ⟨sb, 0, none⟩ = some (.pointer (some ⟨g, 0, none⟩)) := by simpa using (hKe _ st2.k).1.cell 0
 have HAG := Lib.hid hag
 have HFK := Lib.hid hFk
 have HKE := Lib.hid hKe
 have HKI := Lib.hid hKi
 have HKS := Lib.hid hKs
 clear hag hFk hKe hKi hKs hFl
 go_wp2_with fail
 refine (N3.out _ st2.rd).mono ?_
 rintro e w3 ⟨rfl, h3⟩
 have st3 := st2.callP h3
 have hkw3 : kb < w3.heap.size := (HKE.out _ st3.k).2.2.lt
 clear st2 sc2 h3
 go_wp2_with fail
 go_loopw [32] (fun i wx => LeRel w w3 F g X KK (fun v => #[U8V a0, I64 a1, I64 a2, I64 a3, I64 a4, I64 a5, I64 a6, I64 a7, .bool ok, v, I64 0, I64 0, .slice none 0 0, .slice none 0 0, .slice none 0 0, .slice none 0 0, I64 0, I64 0, I64 0, .slice none 0 0]) s3 n i wx) (fun i _ => n - (intOf i).toNat)
 case atStart => exact ⟨0, lsZ, Nat.zero_le _, rfl, rfl, st3, ⟨Own.nil _ _ _, fun k hk => (zaH k hk).elim⟩, zbK.nil _ _, (by intro e he; cases he), rfl, rfl, Nat.le_refl _⟩
 case round =>
  clear st3
  obtain ⟨k, cur, hk, rfl, hcl, st, ho, he, hz, hm, hb, hwz⟩ := hrel
  by_cases hlt : k < n
  ·have hi0 : (k : Int) < (n : Int) := by omega
   have sc : wr.cell? ⟨sb, 0, none⟩ = some (.pointer (some ⟨g, 0, none⟩)) := by simpa using (HKE.out _ st.k).1.cell 0
   have hsucc : zam (k + 1) s3 = (((zam k s3).1.1 ++ [(zbb (zam k s3).2).1], (zam k s3).1.2 && (zbb (zam k s3).2).2), (zb7 (zam k s3).2).2) := rfl
   have hcall := fun w1 h1 => N4.out k w1 h1
   have hzs := fun (y : EntM) h => zaW.read (y := y) (s := (zam k s3).2) h
   have hbad := fun h => B4.out (k + 1) h hlt
   rw [hsucc, hb] at hbad
   rw [hb] at hsucc
   simp only [Bool.true_and] at hbad hsucc
   generalize (zam k s3).1.1 = es0 at hsucc hm
   obtain ⟨sk, hsk⟩ : ∃ q, (zam k s3).2 = q := ⟨_, rfl⟩
   rw [hsk] at hsucc hcall hzs hbad st
   obtain ⟨⟨qe, qd⟩, hqe⟩ : ∃ q, zbb sk = q := ⟨_, rfl⟩
   obtain ⟨sn, hsn⟩ : ∃ q, (zb7 sk).2 = q := ⟨_, rfl⟩
   simp only [hqe, hsn] at hsucc hcall hzs hbad
   have HS := Lib.hid hsucc
   have HCA := Lib.hid hcall
   have HZS := Lib.hid hzs
   have HBD := Lib.hid hbad
   have HE := Lib.hid he
   have HZ := Lib.hid hz
   have HM := Lib.hid hm
   clear hsucc hcall hzs hbad he hz hm hb hsk hqe hsn
   go_wp2_with fail
   refine (HCA.out _ st.rd).mono ?_
   rintro e w4 ⟨y, rfl, ey, oy, h4⟩
   have st4 := st.callP h4
   obtain ⟨G, hG⟩ : ∃ G, G = w4.heap.size := ⟨_, rfl⟩
   obtain ⟨V0, hV0⟩ : ∃ V, V = w4.alloc (.cells zE9A 87) := ⟨_, rfl⟩
   have qv0 : Nw w4 V0 := by rw [hV0]; exact (Fr.refl (fun _ => False) w4).alloc _
   have g0 : Blk V0 G 87 zE9A := by rw [hV0, hG]; exact Blk.new _ _ _
   obtain ⟨V1, hV1⟩ : ∃ V, V = V0.setCells G 0 (entL y) := ⟨_, rfl⟩
   have g1 : Blk V1 G 87 (entA y) := by rw [hV1]; exact Blk.setCells (l := zE9L) g0 0 (entL y)
   have m1 : Fr (· = G) V0 V1 := by rw [hV1]; exact (Fr.refl (· = G) _).setCells _ _
   have qv1 : Nw w4 V1 := qv0.new m1 (fun b hb => by omega)
   have hth := Blk.there (l := zE9L) g0 0 7 (by show 0 + 7 ≤ 7; omega)
   have hone := zbo y
   have hcy := zcC y
   have st5 := st4.nw qv1
   have hlg := Blk.cells_at (l := (entL y)) g1 0
   have HG := Lib.hid hG
   have HV0 := Lib.hid hV0
   have HV1 := Lib.hid hV1
   have HEY := Lib.hid ey
   clear hG hV0 hV1 m1 g0 qv0 ey st4 sc
   go_upto_region 9 with (rw [← HG.out, ← HV0.out]; refine wpList_store_mid rfl 87 _ _ rfl G 0 (entA y) rfl rfl hth (by kernel_rfl) hone ?_; rw [← HV1.out])
   cases qd with
   | false =>
    have hpn : p = none := by rw [← HP.out]; exact if_neg (fun hh => by have := HBD.out rfl; rw [this] at hh; exact absurd hh.2.1 (by simp))
    have HPN := Lib.hid hpn
    clear hpn
    go_wp2_with fail
    refine (zdH V1).mono ?_
    rintro e w5 ⟨rfl, rfl⟩
    refine ⟨rfl, ?_⟩
    rw [HPN.out]
    exact ⟨st5.fr, rfl⟩
   | true =>
    go_upto_region 10 with (go_at_call 97; refine (zdl V1).mono ?_; rintro e w5 ⟨rfl, rfl⟩)
    obtain ⟨V2, hV2⟩ : ∃ V, V = V1.alloc (.cells (entA y) 87) := ⟨_, rfl⟩
    have sln := zaI V1 87 (entL y) _ rfl
    have qv2 : Nw V1 V2 := by rw [hV2]; exact (Fr.refl (fun _ => False) V1).alloc _
    have st6 := st5.nw qv2
    have hAg := HAG.out w3 hkw3 cur.a ho.base
    have ho4 := ho.fr h4.2 (fun j hj => (hAg j hj).1)
    have hoa := ((ho4.nw qv1).nw qv2).own
    have c9 : V1.cell? ⟨X, 9, none⟩ = some (.slice cur.a cur.l.length cur.c) := by simpa using st5.x.cell 9
    rw [← hV2] at sln
    have HV2 := Lib.hid hV2
    have HCL := Lib.hid hcl
    have hcl30 : cur.l.length ≤ 30 := by omega
    have hS6 : ∀ (B' : Option Addr) (c' : Nat) (w5 : World), zaM V2 87 7 cur.a cur.l.length cur.c 1 (zal cur.l) (entL y) B' c' w5 → RSt true w w5 F g X 50 KK sn #[U8V a0, I64 a1, I64 a2, I64 a3, I64 a4, I64 a5, I64 a6, I64 a7, .bool ok, .slice cur.a cur.l.length cur.c, I64 0, I64 0, .slice none 0 0, .slice none 0 0, .slice none 0 0, .slice none 0 0, I64 0, I64 0, I64 0, .slice none 0 0] := fun B' c' w5 hap =>
     st6.other hap.fr (fun h => (hAg _ h).1 rfl) (fun h => (hAg _ h).2.1 rfl) (fun j hj h => (hAg _ h).2.2.2.2.2.2 hj) (fun j hj => (hAg _ hj).2.2.2.2.2.1) (HKI.out _ (by
      obtain ⟨k1, k2, k3⟩ := HKE.out _ st6.k
      exact ⟨k1.fr hap.fr (fun h => (hAg _ h).2.2.1 rfl), k2.fr hap.fr (fun h => (hAg _ h).2.2.2.1 rfl), k3.fr hap.fr (fun h => (hAg _ h).2.2.2.2.1 rfl)⟩)) HKS.out
    clear hV2 hcl st5
    go_wp2_with (first | (refine za5 rfl 87 _ rfl G 0 rfl (entL y) _ hlg Tryz.underlying87 rfl (by kernel_rfl) ?_) | (at_builtin; rw [← HV2.out]; refine zay rfl _ _ _ rfl 136 (.agg zE9A) Tryz.underlying43 zfs rfl (by decide) rfl hoa rfl sln rfl hcy (by omega) (by unfold maxLen; omega) ?_; intro B' c' w5 hap; have st7 := hS6 B' c' w5 hap; have c95 : w5.cell? ⟨X, 9, none⟩ = some (.slice cur.a cur.l.length cur.c) := (by simpa using st7.x.cell 9); have f95 := st7.x.frozen 9))
    obtain ⟨w6, hw6⟩ : ∃ w6, w6 = w5.setCell ⟨X, 9, none⟩ (.slice B' (cur.l.length + 1) c') := ⟨_, rfl⟩
    have st8 : RSt true w w6 F g X 50 KK sn #[U8V a0, I64 a1, I64 a2, I64 a3, I64 a4, I64 a5, I64 a6, I64 a7, .bool ok, .slice B' (cur.l.length + 1) c', I64 0, I64 0, .slice none 0 0, .slice none 0 0, .slice none 0 0, .slice none 0 0, I64 0, I64 0, I64 0, .slice none 0 0] := by rw [hw6]; exact RSt.set_ st7 9 _
    have m6 : Fr (· = X) w5 w6 := by rw [hw6]; exact (Fr.refl (· = X) _).set1 _ _
    have HW6 := Lib.hid hw6
    rw [← HW6.out]
    clear hw6
    go_roundw
    case rel =>
     have hcl := HCL.out
     have hin : ∀ j, inA B' j → inA cur.a j ∨ j = V2.heap.size := hap.inA_
     have hBl : ∀ j, inA cur.a j → j < wr.heap.size := ho.own.lt
     have hs4 := h4.2.size
     have hs1 := qv1.size
     have hs2 := qv2.size
     have hs5 := hap.fr.size
     have hs6 := m6.size
     have hXw : X < w3.heap.size := by omega
     refine ⟨k + 1, ⟨B', c', cur.l ++ [y]⟩, by omega, by go_num, by simp [hcl], ?_, ⟨?_, fun j hj => ?_⟩, ?_, fun u hu => ?_, ?_, ?_, by omega⟩
     ·rw [HS.out]
      show RSt true w w6 F g X 50 KK sn #[U8V a0, I64 a1, I64 a2, I64 a3, I64 a4, I64 a5, I64 a6, I64 a7, .bool ok, .slice B' (cur.l ++ [y]).length c', I64 0, I64 0, .slice none 0 0, .slice none 0 0, .slice none 0 0, .slice none 0 0, I64 0, I64 0, I64 0, .slice none 0 0]
      rw [List.length_append]
      exact st8
     ·show Own w6 87 7 B' (cur.l ++ [y]).length c' (zal (cur.l ++ [y]))
      rw [List.length_append, zcx, zdW]
      refine hap.1.fr m6 (fun j hj e => ?_)
      rcases hin j hj with h | h
      ·have := ho.base j h
       omega
      ·omega
     ·rcases hin j hj with h | h
      ·exact ho.base j h
      ·rw [h]; omega
     ·have i1 := (((HE.out.mono (G := fun j => (w3.heap.size ≤ j ∧ ¬ inA cur.a j) ∧ j < wr.heap.size) (fun j hj hl => ⟨hj, hl⟩)).fr h4.2 (fun j hj e => by have := hj.1.1; have := h.lt; omega)).nw qv1).nw qv2
      have i2 := (i1.fr hap.fr (fun j hj => hj.1.2)).fr m6 (fun j hj e => by have := hj.1.1; omega)
      have i3 := ((oy.hd.mono (G := fun j => wr.heap.size ≤ j ∧ j < w4.heap.size) (fun j hj hl => ⟨hj, hl⟩)).nw qv1).nw qv2
      have i4 := (i3.fr hap.fr (fun j hj e => by have := hBl j e; have := hj.1; omega)).fr m6 (fun j hj e => by have := hj.1; omega)
      refine i2.append i4 (fun j h1 h2 => by have := h1.2; have := h2.1; omega) (fun j hj _ => ⟨hj.1.1, fun hB => ?_⟩) (fun j hj _ => ⟨by have := hj.1; omega, fun hB => ?_⟩)
      ·rcases hin j hB with h | h
       ·exact hj.1.2 h
       ·have := hj.2
        omega
      ·rcases hin j hB with h | h
       ·have := hBl j h
        have := hj.1
        omega
       ·have := hj.2
        omega
     ·rcases List.mem_append.1 hu with hu | hu
      ·exact HZ.out u hu
      ·rw [List.mem_singleton.1 hu]; exact HZS.out y HEY.out
     ·rw [HS.out, List.map_append, HM.out, List.map_singleton, HEY.out]
     ·rw [HS.out]
    case measure => simp [intOf]; omega
  ·obtain rfl : k = n := by omega
   rw [Q4.out] at st hm hb
   simp only at st hm hb
   subst hb
   have sc : wr.cell? ⟨sb, 0, none⟩ = some (.pointer (some ⟨g, 0, none⟩)) := by simpa using (HKE.out _ st.k).1.cell 0
   have hz30 : cur.l.length ≤ 30 := by omega
   have HM := Lib.hid hm
   have HZ := Lib.hid hz
   have HCL := Lib.hid hcl
   clear hm hz hcl
   go_wp2_with fail
   refine (N5.out _ st.rd).mono ?_
   rintro e w4 ⟨y, rfl, ey, oy, h4⟩
   have hzc := Z5.out y ey
   have hg3 : g < w3.heap.size ∧ X < w3.heap.size ∧ R < w3.heap.size := by omega
   obtain ⟨K2, hK2⟩ : ∃ K : World → Prop, K = fun wz => zao w3 wz 87 7 zal cur ∧ zbK wz (fun j => w3.heap.size ≤ j ∧ j < wr.heap.size) cur.l ∧ zaQ wr wz y.cfg ∧ wr.heap.size ≤ wz.heap.size := ⟨_, rfl⟩
   have hK2s : ∀ a c, Fr (fun k => k = g ∨ k = X) a c → K2 a → K2 c := fun a c f hk => by
    rw [hK2] at hk ⊢
    obtain ⟨k1, k2, k3, k4⟩ := hk
    have hn : ∀ j, w3.heap.size ≤ j → ¬ (j = g ∨ j = X) := fun j hj e => by omega
    exact ⟨k1.fr f (fun j hj => hn j (k1.base j hj)), k2.fr f (fun j hj => hn j hj.1), k3.fr f (fun j hj => hn j (Nat.le_trans hwz hj)), Nat.le_trans k4 f.size⟩
   have k24 : K2 w4 := by
    rw [hK2]
    exact ⟨ho.fr h4.2 (fun j hj e => by have := ho.base j hj; omega), (he.mono (G := fun j => w3.heap.size ≤ j ∧ j < wr.heap.size) (fun j hj hl => ⟨hj.1, hl⟩)).fr h4.2 (fun j hj e => by have := hj.1; omega), oy, h4.2.size⟩
   have st4 := (st.callP h4).more k24 hK2s
   obtain ⟨G, hG⟩ : ∃ G, G = w4.heap.size := ⟨_, rfl⟩
   obtain ⟨V0, hV0⟩ : ∃ V, V = w4.alloc (.cells zB9A 47) := ⟨_, rfl⟩
   have qv0 : Nw w4 V0 := by rw [hV0]; exact (Fr.refl (fun _ => False) w4).alloc _
   have g0 : Blk V0 G 47 zB9A := by rw [hV0, hG]; exact Blk.new _ _ _
   obtain ⟨V1, hV1⟩ : ∃ V, V = V0.setCells G 0 (bl9 y) := ⟨_, rfl⟩
   have g1 : Blk V1 G 47 (basA y) := by rw [hV1]; exact Blk.setCells (l := zB9L) g0 0 (bl9 y)
   have m1 : Fr (· = G) V0 V1 := by rw [hV1]; exact (Fr.refl (· = G) _).setCells _ _
   have qv1 : Nw w4 V1 := qv0.new m1 (fun b hb => by omega)
   have hth := Blk.there (l := zB9L) g0 0 6 (by show 0 + 6 ≤ 6; omega)
   have hone := zcY y
   have st5 := st4.nw qv1
   have hlg := Blk.cells_at (l := (bl9 y)) g1 0
   have HG := Lib.hid hG
   have HV0 := Lib.hid hV0
   have HV1 := Lib.hid hV1
   have HEY := Lib.hid ey
   have HK2 := Lib.hid hK2
   have HK2S := Lib.hid hK2s
   have HZC := Lib.hid hzc
   clear hG hV0 hV1 m1 g0 qv0 ey st4 sc hK2 hK2s k24 oy ho he hzc st h4
   go_upto_region 13 with (rw [← HG.out, ← HV0.out]; refine wpList_store_mid rfl 47 _ _ rfl G 0 (basA y) rfl rfl hth (by kernel_rfl) hone ?_; rw [← HV1.out])
   cases bok with
   | false =>
    have hpn : p = none := by rw [← HP.out]; exact if_neg (fun hh => absurd hh.2.2.1 (by simp))
    have HPN := Lib.hid hpn
    clear hpn
    go_wp2_with fail
    refine (zdH V1).mono ?_
    rintro e w5 ⟨rfl, rfl⟩
    refine ⟨rfl, ?_⟩
    rw [HPN.out]
    exact ⟨st5.fr, rfl⟩
   | true =>
    go_upto_region 14 with (go_at_call 97; refine (zdl V1).mono ?_; rintro e w5 ⟨rfl, rfl⟩)
    have thx := Blk.there (l := [U8V a0, I64 a1, I64 a2, I64 a3, I64 a4, I64 a5, I64 a6, I64 a7, .bool ok, .slice cur.a cur.l.length cur.c, I64 0, I64 0, .slice none 0 0, .slice none 0 0, .slice none 0 0, .slice none 0 0, I64 0, I64 0, I64 0, .slice none 0 0]) st5.x 10 6 (by show 10 + 6 ≤ 20; omega)
    obtain ⟨V2, hV2⟩ : ∃ V, V = V1.setCells X 10 (bl9 y) := ⟨_, rfl⟩
    have m2 : Fr (· = X) V1 V2 := by rw [hV2]; exact (Fr.refl (· = X) _).setCells _ _
    have st6 := st5.both (s' := s5) (m2.mono fun b hb => .inl (.inr hb)) (st5.rd.fr m2 (fun e => st5.gX e) (fun j hj e => st5.FX (e ▸ hj))) (by rw [hV2]; exact Blk.setCells (l := [U8V a0, I64 a1, I64 a2, I64 a3, I64 a4, I64 a5, I64 a6, I64 a7, .bool ok, .slice cur.a cur.l.length cur.c, I64 0, I64 0, .slice none 0 0, .slice none 0 0, .slice none 0 0, .slice none 0 0, I64 0, I64 0, I64 0, .slice none 0 0]) st5.x 10 (bl9 y) : Blk V2 X 50 #[U8V a0, I64 a1, I64 a2, I64 a3, I64 a4, I64 a5, I64 a6, I64 a7, .bool ok, .slice cur.a cur.l.length cur.c, I64 y.index, I64 y.term, .slice y.cfg.v.a y.cfg.v.l.length y.cfg.v.c, .slice y.cfg.o.a y.cfg.o.l.length y.cfg.o.c, .slice y.cfg.l.a y.cfg.l.l.length y.cfg.l.c, .slice y.cfg.w.a y.cfg.w.l.length y.cfg.w.c, I64 0, I64 0, I64 0, .slice none 0 0])
    have HV2 := Lib.hid hV2
    clear hV2 st5 m2
    go_upto_region 15 with (first | (refine za5 rfl 47 _ rfl G 0 rfl (bl9 y) _ hlg Tryz.underlying47 rfl (by kernel_rfl) ?_) | (refine wpList_store_mid rfl 47 _ _ rfl X 10 (basA y) rfl rfl thx (by kernel_rfl) hone ?_; rw [← HV2.out]))
    clear hlg thx hone g1
    have sc6 : V2.cell? ⟨sb, 0, none⟩ = some (.pointer (some ⟨g, 0, none⟩)) := by simpa using (HKE.out _ st6.k.1).1.cell 0
    have hnum2 : ∀ w1 gp, Nw V2 w1 → V2.heap.size ≤ gp → Sl w1 (· = gp) (some ⟨gp, 0, none⟩) [ptrV X 16, ptrV X 17] → Calls Tryz.prog 165 #[.agg #[.pointer (some ⟨g, 0, none⟩)], .slice (some ⟨gp, 0, none⟩) 2 2] w1 fun e w' => e = .returned (.tuple #[]) ∧ RSt true w w' F g X 50 (fun w => KK w ∧ K2 w) s6 #[U8V a0, I64 a1, I64 a2, I64 a3, I64 a4, I64 a5, I64 a6, I64 a7, .bool ok, .slice cur.a cur.l.length cur.c, I64 y.index, I64 y.term, .slice y.cfg.v.a y.cfg.v.l.length y.cfg.v.c, .slice y.cfg.o.a y.cfg.o.l.length y.cfg.o.c, .slice y.cfg.l.a y.cfg.l.l.length y.cfg.l.c, .slice y.cfg.w.a y.cfg.w.l.length y.cfg.w.c, I64 b0, I64 b1, I64 0, .slice none 0 0] := by
     intro w1 gp q1 hgp hsl
     have st6' := st6.nw q1
     have hXl := st6.x.lt
     refine (zhN w1 F g s5 st6'.rd X 50 _ st6'.x st6'.gX st6'.FX [16, 17] (fun o ho => by show o < 20; simp at ho; omega) (· = gp) (some ⟨gp, 0, none⟩) 2 hsl (fun k hk => by omega) (by simp)).mono ?_
     rintro e w' ⟨rfl, r1, r2, r3⟩
     rw [show [16, 17].length = 2 from rfl, Q6.out] at r1 r2
     exact ⟨rfl, st6'.both r3 r1 r2⟩
    have HN2 := Lib.hid hnum2
    clear hnum2 st6
    go_upto_region 16 with (go_at_call 165; refine (HN2.out _ V2.heap.size ((Fr.refl (fun _ => False) V2).alloc _) (Nat.le_refl _) ((Blk.new V2 _ _).sl 0 2)).mono ?_; rintro e w5 ⟨rfl, st7⟩; have sc7 : w5.cell? ⟨sb, 0, none⟩ = some (.pointer (some ⟨g, 0, none⟩)) := (by simpa using (HKE.out _ st7.k.1).1.cell 0))
    go_upto_region 17 with (go_at_call 96; refine (N7.out _ st7.rd).mono ?_; rintro e w6 ⟨rfl, h6⟩; have su8 := st7.callP h6; have c8 : w6.cell? ⟨X, 18, none⟩ = some (I64 0) := (by simpa using su8.x.cell 18); have f8 := su8.x.frozen 18)
    obtain ⟨W8, hW8⟩ : ∃ W, W = w6.setCell ⟨X, 18, none⟩ (I64 tg) := ⟨_, rfl⟩
    have st8 : RSt true w W8 F g X 50 (fun w => KK w ∧ K2 w) s7 #[U8V a0, I64 a1, I64 a2, I64 a3, I64 a4, I64 a5, I64 a6, I64 a7, .bool ok, .slice cur.a cur.l.length cur.c, I64 y.index, I64 y.term, .slice y.cfg.v.a y.cfg.v.l.length y.cfg.v.c, .slice y.cfg.o.a y.cfg.o.l.length y.cfg.o.c, .slice y.cfg.l.a y.cfg.l.l.length y.cfg.l.c, .slice y.cfg.w.a y.cfg.w.l.length y.cfg.w.c, I64 b0, I64 b1, I64 tg, .slice none 0 0] := by rw [hW8]; exact su8.set_ 18 (I64 tg)
    have HW8 := Lib.hid hW8
    rw [← HW8.out]
    have sc8 : W8.cell? ⟨sb, 0, none⟩ = some (.pointer (some ⟨g, 0, none⟩)) := by simpa using (HKE.out _ st8.k.1).1.cell 0
    clear hW8 su8 c8 f8 st7 sc7 sc6
    go_upto_region 18 with (go_at_call 169; refine (N8.out _ st8.rd).mono ?_; rintro e w7 ⟨A8, cp8, rfl, o8, h8, n8⟩; have su9 := st8.callP h8; have c9 : w7.cell? ⟨X, 19, none⟩ = some (.slice none 0 0) := (by simpa using su9.x.cell 19); have f9 := su9.x.frozen 19)
    obtain ⟨W9, hW9⟩ : ∃ W, W = w7.setCell ⟨X, 19, none⟩ (.slice A8 by_.length cp8) := ⟨_, rfl⟩
    have m9 : Fr (· = X) w7 W9 := by rw [hW9]; exact (Fr.refl (· = X) _).set1 _ _
    have st9 : RSt true w W9 F g X 50 (fun w => KK w ∧ K2 w) s8 (lv9A a0 a1 a2 a3 a4 a5 a6 a7 ok cur y b0 b1 tg A8 by_.length cp8) := by rw [hW9]; exact su9.set_ 19 (.slice A8 by_.length cp8)
    have hRl8 : R < W8.heap.size := (HKE.out _ st8.k.1).2.1.lt
    have hXl8 : X < W8.heap.size := st8.x.lt
    have ob : zao W8 W9 5 1 zaw ⟨A8, cp8, by_⟩ := ⟨o8.fr m9 (fun j hj e => by have := n8 j hj; omega), n8⟩
    have hws8 : w.heap.size ≤ W8.heap.size := st8.fr.size
    have hK9 := st9.k.2
    rw [HK2.out] at hK9
    obtain ⟨k1, k2, k3, k4⟩ := hK9
    obtain ⟨Y, hY⟩ : ∃ Y : LetM, Y = ⟨a0, a1, a2, a3, a4, a5, a6, a7, ok, cur, y, b0, b1, tg, ⟨A8, cp8, by_⟩⟩ := ⟨_, rfl⟩
    have hYI : za3 W9 (fun j => w.heap.size ≤ j ∧ j ≠ R) Y := by
     rw [hY]
     refine ⟨by show 0 ≤ a0 ∧ a0 ≤ 255; have := H256.out; omega, k1.in_.mono (fun j hj _ => ?_), fun e he => (k2.each e he).mono (fun j hj _ => ?_), k3.in_.mono (fun j hj _ => ?_), ob.in_.mono (fun j hj _ => ?_)⟩
     ·unfold zab at hj; omega
     ·have := hj.1; omega
     ·unfold zab at hj; omega
     ·unfold zab at hj; omega
    have hw8 : wr.heap.size ≤ W8.heap.size := by have h := st8.k.2; rw [HK2.out] at h; exact h.2.2.2
    have hYH : zbg W9 (fun j => w.heap.size ≤ j ∧ j ≠ R) Y := by
     rw [hY] at hYI ⊢
     refine zbg.make (fun j => w3.heap.size ≤ j ∧ j < wr.heap.size) (zab wr) (zab W8) hYI.kind k2 (k1.hd.mono fun j hj _ => ?_) hYI.cfg k3.hd ob.hd (fun j h1 h2 => ?_) (fun j h1 h2 => ?_) (fun j hj _ => ?_) (fun j hj _ => ?_) (fun j hj _ => ?_)
     ·unfold zab at hj; omega
     ·unfold zab at h2; omega
     ·unfold zab at h2; omega
     ·omega
     ·unfold zab at hj; omega
     ·unfold zab at hj; omega
    have hYZ : za8 Y := by
     rw [hY]
     exact ⟨by show cur.l.length ≤ _; omega, HZ.out, HZC.out, by show by_.length ≤ _; have := M8.out; omega⟩
    have hYx : Y.x = ⟨a0, a1, a2, a3, a4, a5, a6, a7, ok, es, bs, b0, b1, tg, by_⟩ := by
     rw [hY]
     show (⟨a0, a1, a2, a3, a4, a5, a6, a7, ok, cur.l.map EntM.x, y.x, b0, b1, tg, by_⟩ : LetF) = _
     rw [HM.out, HEY.out]
    obtain ⟨lk, hlk⟩ : ∃ lk, zaE ⟨a0, a1, a2, a3, a4, a5, a6, a7, ok, es, bs, b0, b1, tg, by_⟩ = lk := ⟨_, rfl⟩
    have hYL : (lv9L a0 a1 a2 a3 a4 a5 a6 a7 ok cur y b0 b1 tg A8 by_.length cp8) = letL Y := by rw [hY]
    have hYA : (lv9A a0 a1 a2 a3 a4 a5 a6 a7 ok cur y b0 b1 tg A8 by_.length cp8) = letA Y := by rw [hY]
    have hright : ∀ w1 gp, Nw W9 w1 → Sl w1 (· = gp) (some ⟨gp, 0, none⟩) (lv9L a0 a1 a2 a3 a4 a5 a6 a7 ok cur y b0 b1 tg A8 by_.length cp8) → Calls Tryz.prog 35 #[.slice (some ⟨gp, 0, none⟩) 1 1] w1 fun e w' => e = .returned (.bool lk) ∧ Nw w1 w' := by
     intro w1 gp q1 hsl
     rw [hYL, ← zdQ] at hsl
     have c := zd3 w1 (fun _ => True) (some ⟨gp, 0, none⟩) 1 [Y] (hsl.mono fun _ _ _ => trivial) (fun x hx => by rw [List.mem_singleton.1 hx]; exact (hYI.nw q1).mono fun _ _ _ => trivial) (fun x hx => by rw [List.mem_singleton.1 hx]; exact hYZ) (by simp)
     have e : zbF ([Y].map LetM.x) = lk := by
      rw [← hlk, ← hYx]
      simp [zbF]
     rw [e] at c
     exact c
    have lx := Blk.cells_at (l := (lv9L a0 a1 a2 a3 a4 a5 a6 a7 ok cur y b0 b1 tg A8 by_.length cp8)) st9.x 0
    have HRG := Lib.hid hright
    have HYI := Lib.hid hYI
    have HYH := Lib.hid hYH
    have HYZ := Lib.hid hYZ
    have HYX := Lib.hid hYx
    have HLK := Lib.hid hlk
    have HYL := Lib.hid hYL
    have HYA := Lib.hid hYA
    have HW9 := Lib.hid hW9
    rw [← HW9.out]
    clear hright hYI hYH hw8 hYZ hYx hlk hYL hYA hW9 hY ob k1 k2 k3 o8 m9 su9 c9 f9 st8 sc8 h8 n8
    go_wp2_with (refine za5 rfl 50 _ rfl X 0 rfl (lv9L a0 a1 a2 a3 a4 a5 a6 a7 ok cur y b0 b1 tg A8 by_.length cp8) _ lx Tryz.underlying50 rfl (by kernel_rfl) ?_)
    refine (HRG.out _ W9.heap.size ((Fr.refl (fun _ => False) W9).alloc _) (zaI W9 50 (lv9L a0 a1 a2 a3 a4 a5 a6 a7 ok cur y b0 b1 tg A8 by_.length cp8) _ rfl)).mono ?_
    rintro e v9 ⟨rfl, q9⟩
    have q90 : Nw W9 v9 := ((Fr.refl (fun _ => False) W9).alloc _).tr q9
    have st10 := st9.nw q90
    cases lk with
    | false =>
     have hpn : p = none := by rw [← HP.out]; exact if_neg (fun hh => by rw [HLK.out] at hh; exact absurd hh.2.2.2 (by simp))
     have HPN := Lib.hid hpn
     clear hpn
     go_wp2_with fail
     refine (zdH _).mono ?_
     rintro e w10 ⟨rfl, rfl⟩
     refine ⟨rfl, ?_⟩
     rw [HPN.out]
     exact ⟨st10.fr, rfl⟩
    | true =>
     have hps : p = some (⟨a0, a1, a2, a3, a4, a5, a6, a7, ok, es, bs, b0, b1, tg, by_⟩, s8) := by rw [← HP.out]; exact if_pos ⟨H256.out, trivial, trivial, HLK.out⟩
     have HPS := Lib.hid hps
     have r10 := (HKE.out _ st10.k.1).2.1
     have thr := Blk.there (l := zL9L) r10 0 20 (by show 0 + 20 ≤ 20; omega)
     have oner : (lv9A a0 a1 a2 a3 a4 a5 a6 a7 ok cur y b0 b1 tg A8 by_.length cp8).all (·.oneCell') = true := by rw [HYA.out]; exact zbc Y
     have lx10 := Blk.cells_at (l := (lv9L a0 a1 a2 a3 a4 a5 a6 a7 ok cur y b0 b1 tg A8 by_.length cp8)) st10.x 0
     obtain ⟨v10, hv10⟩ : ∃ W, W = v9.setCells R 0 (lv9L a0 a1 a2 a3 a4 a5 a6 a7 ok cur y b0 b1 tg A8 by_.length cp8) := ⟨_, rfl⟩
     have m10 : Fr (· = R) v9 v10 := by rw [hv10]; exact (Fr.refl (· = R) _).setCells _ _
     have rr : Blk v10 R 50 (lv9A a0 a1 a2 a3 a4 a5 a6 a7 ok cur y b0 b1 tg A8 by_.length cp8) := by rw [hv10]; exact Blk.setCells (l := zL9L) r10 0 (lv9L a0 a1 a2 a3 a4 a5 a6 a7 ok cur y b0 b1 tg A8 by_.length cp8)
     have res : LetRd w F g p (.returned (.agg (lv9A a0 a1 a2 a3 a4 a5 a6 a7 ok cur y b0 b1 tg A8 by_.length cp8))) v10 := by
      rw [hps]
      refine ⟨st10.fr.trans m10 (fun j hj => .inr (by omega)), Y, by rw [HYA.out], HYX.out, ((HYH.out.nw q90).fr m10 (fun j hj e => hj.2 e)).mono (fun j hj _ => hj.1), HYZ.out, st10.rd.fr m10 (fun e => by omega) (fun j hj e => ?_)⟩
      have := (HFK.out j hj).2.1
      omega
     have HV10 := Lib.hid hv10
     have HRES := Lib.hid res
     clear hps res hv10 m10 st10 st9 lx q90
     go_upto_region 19 with (go_at_call 97; refine (zdl _).mono ?_; rintro e w10 ⟨rfl, rfl⟩)
     go_wp2_with (first | (refine za5 rfl 50 _ rfl X 0 rfl (lv9L a0 a1 a2 a3 a4 a5 a6 a7 ok cur y b0 b1 tg A8 by_.length cp8) _ lx10 Tryz.underlying50 rfl (by kernel_rfl) ?_) | (refine wpList_store_mid rfl 50 _ _ rfl R 0 (lv9A a0 a1 a2 a3 a4 a5 a6 a7 ok cur y b0 b1 tg A8 by_.length cp8) rfl rfl thr (by kernel_rfl) oner ?_; rw [← HV10.out]))
     refine bodyPost_ret (v := .agg (lv9A a0 a1 a2 a3 a4 a5 a6 a7 ok cur y b0 b1 tg A8 by_.length cp8)) ?_ rfl ?_
     ·exact results_cell_row rfl _ _ R 50 _ (0, 0) _ rfl rr Tryz.underlying50 rfl (by kernel_rfl)
     exact HRES.out
end Go.Proofs.YtippdjaakcgeoaaGreat
