/- Lemmas of the walks: GdG. (Laid together by shake.py.) -/
import Derived.Test.YtippdjaakcgeoaaGreatGa04
import Derived.Test.YtippdjaakcgeoaaGreatGa10
import Derived.Test.YtippdjaakcgeoaaGreatGa11
import Derived.Test.YtippdjaakcgeoaaGreatGa12
import Derived.Test.YtippdjaakcgeoaaGreatGa16
set_option linter.unusedVariables false
set_option linter.unusedSimpArgs false
namespace Go.Proofs.YtippdjaakcgeoaaGreat
open Go Go.RowKit
set_option linter.unusedVariables false
set_option linter.unusedSimpArgs false
/-- What comes of reading a letter. -/
def LetRd (w : World) (F : Nat → Prop) (g : Nat) (p : Option (LetF × Rd)) (e : Ending) (w' : World) : Prop := Fr (· = g) w w' ∧ match p with
  | none => e = .panicked [shapeP]
  | some (x, s') => ∃ y : LetM, e = .returned (.agg (letA y)) ∧ y.x = x ∧ LetHd w' (Since w) y ∧ LetSz y ∧ IsRd w' F g s'
theorem EntSz.read {y : EntM} {s : Rd} (h : y.x = (rdEnt s).1) : EntSz y := by
  unfold rdEnt at h
  split at h
  · have a1 : y.cmd.l = (rdRow 131072 (rdNum 255 (rdNum 1073741824 s).2).2).1 := congrArg Ent.cmd h
    have a2 : y.cfg.x = (rdCfg (rdRow 131072 (rdNum 255 (rdNum 1073741824 s).2).2).2).1 := congrArg Ent.cfg h
    have b1 := rdRow_len 131072 (by omega) (rdNum 255 (rdNum 1073741824 s).2).2
    exact ⟨by rw [a1]; omega, rdCfg_sz a2⟩
  · have a1 : y.cmd.l = [] := congrArg Ent.cmd h
    have a2 : y.cfg.x = ⟨[], [], [], []⟩ := congrArg Ent.cfg h
    have b1 : y.cfg.v.l = [] := congrArg Cfg.v a2
    have b2 : y.cfg.o.l = [] := congrArg Cfg.o a2
    have b3 : y.cfg.l.l = [] := congrArg Cfg.l a2
    have b4 : y.cfg.w.l = [] := congrArg Cfg.w a2
    exact ⟨by rw [a1]; simp, ⟨by rw [b1]; simp, by rw [b2]; simp, by rw [b3]; simp, by rw [b4]; simp⟩⟩
theorem CfgSz.readB {y : BasM} {s : Rd} (h : y.x = (rdBas s).1) : CfgSz y.cfg := by
  unfold rdBas at h
  split at h
  · have a2 : y.cfg.x = (rdCfg (rdNum 1073741824 (rdNum 1073741824 s).2).2).1 := congrArg Bas.cfg h
    exact rdCfg_sz a2
  · have a2 : y.cfg.x = ⟨[], [], [], []⟩ := congrArg Bas.cfg h
    have b1 : y.cfg.v.l = [] := congrArg Cfg.v a2
    have b2 : y.cfg.o.l = [] := congrArg Cfg.o a2
    have b3 : y.cfg.l.l = [] := congrArg Cfg.l a2
    have b4 : y.cfg.w.l = [] := congrArg Cfg.w a2
    exact ⟨by rw [b1]; simp, by rw [b2]; simp, by rw [b3]; simp, by rw [b4]; simp⟩
/-- The worlds of the drawn region: was the flag read, was the kind set, was the flag set. -/
def FlagC (T : Bool → Bool → Bool → World → Prop) (L : Nat → Bool) (w : World) : Prop := T (L 4) (L 6) (L 8) w
section
variable {T : Bool → Bool → Bool → World → Prop} {L : Nat → Bool} {w : World}
theorem FlagC.keep (h : FlagC T L w) {j : Nat} (n4 : (4 != j) = true) (n6 : (6 != j) = true) (n8 : (8 != j) = true) : FlagC T (onL L j) w := by
  unfold FlagC
  rw [onL_neB n4, onL_neB n6, onL_neB n8]
  exact h
theorem FlagC.c4 (h : FlagC T L w) (hL : L 4 = false) : T false (L 6) (L 8) w ∧ ∀ w', T true (L 6) (L 8) w' → FlagC T (onL L 4) w' := by
  unfold FlagC at h
  rw [hL] at h
  refine ⟨h, fun w' h' => ?_⟩
  unfold FlagC
  rw [onL_self, onL_neB (j := 4) (k := 6) rfl, onL_neB (j := 4) (k := 8) rfl]
  exact h'
theorem FlagC.c6 (h : FlagC T L w) (hL : L 6 = false) : T (L 4) false (L 8) w ∧ ∀ w', T (L 4) true (L 8) w' → FlagC T (onL L 6) w' := by
  unfold FlagC at h
  rw [hL] at h
  refine ⟨h, fun w' h' => ?_⟩
  unfold FlagC
  rw [onL_self, onL_neB (j := 6) (k := 4) rfl, onL_neB (j := 6) (k := 8) rfl]
  exact h'
theorem FlagC.c8 (h : FlagC T L w) (hL : L 8 = false) : T (L 4) (L 6) false w ∧ ∀ w', T (L 4) (L 6) true w' → FlagC T (onL L 8) w' := by
  unfold FlagC at h
  rw [hL] at h
  refine ⟨h, fun w' h' => ?_⟩
  unfold FlagC
  rw [onL_self, onL_neB (j := 8) (k := 4) rfl, onL_neB (j := 8) (k := 6) rfl]
  exact h'
end
/-- Behind so many entries. -/
def LeRel (w W : World) (F : Nat → Prop) (g X : Nat) (KK : World → Prop) (cells : Value → Array Value) (s3 : Rd) (n : Nat) (i : Value) (wr : World) : Prop :=
  ∃ (k : Nat) (cur : Ls EntM), k ≤ n ∧ i = .int .i64 k ∧ cur.l.length = k ∧ RSt true w wr F g X 50 KK (rdEnts k s3).2 (cells (.slice cur.a cur.l.length cur.c)) ∧ LsOwn W wr 87 7 entsC cur ∧
    EntsHd wr (fun j => W.heap.size ≤ j ∧ ¬ inA cur.a j) cur.l ∧ (∀ e ∈ cur.l, EntSz e) ∧ cur.l.map EntM.x = (rdEnts k s3).1.1 ∧ (rdEnts k s3).1.2 = true ∧ W.heap.size ≤ wr.heap.size
theorem info_entR : (Tryz.prog.info? 87).map (fun i => (i.zero, i.size, i.bytes)) = some (some (.agg #[I64 0, U8V 0, .slice none 0 0, .slice none 0 0, .slice none 0 0, .slice none 0 0, .slice none 0 0]), 7, 136) := by kernel_rfl
theorem info_letR : (Tryz.prog.info? 50).map (fun i => (i.zero, i.size, i.bytes)) = some (some (.agg #[U8V 0, I64 0, I64 0, I64 0, I64 0, I64 0, I64 0, I64 0, .bool false, .slice none 0 0, I64 0, I64 0, .slice none 0 0, .slice none 0 0, .slice none 0 0, .slice none 0 0, I64 0, I64 0, I64 0, .slice none 0 0]), 20, 256) := by kernel_rfl
set_option maxRecDepth 100000 in
set_option maxHeartbeats 8000000 in
theorem lslip_letter (w : World) (F : Nat → Prop) (g : Nat) (s : Rd) (h : IsRd w F g s) (hsz : rdLeft s ≤ 1000000000000) :
    Calls Tryz.prog 99 #[.agg #[.pointer (some ⟨g, 0, none⟩)]] w fun e w' => LetRd w F g (rdLetP s) e w' := by
  obtain ⟨p, hP⟩ : ∃ p, rdLetP s = p := ⟨_, rfl⟩
  rw [hP]
  unfold rdLetP at hP
  have l1 := Nat.le_trans (rdNs_left 1073741824 8 s) hsz
  have len1 := rdNs_len2 1073741824 8 s
  obtain ⟨⟨hs, s1⟩, hq1⟩ : ∃ q, rdNs 1073741824 8 s = q := ⟨_, rfl⟩
  simp only [hq1] at hP l1 len1
  have m1 := rdNum_most 1073741824 s (by omega)
  have cons1 := rdNs_cons 1073741824 7 s
  rw [hq1] at cons1
  obtain ⟨a0, a1, a2, a3, a4, a5, a6, a7, rfl⟩ : ∃ a0 a1 a2 a3 a4 a5 a6 a7, hs = [a0, a1, a2, a3, a4, a5, a6, a7] := by
    match hs, len1 with
    | [a0, a1, a2, a3, a4, a5, a6, a7], _ => exact ⟨a0, a1, a2, a3, a4, a5, a6, a7, rfl⟩
  have ha0 : 0 ≤ a0 := by
    have := congrArg (fun q => q.1.head?) cons1
    simp only [List.head?_cons, Option.some.injEq] at this
    rw [this]
    exact m1.1
  simp only [List.getD_cons_zero, List.getD_cons_succ] at hP
  have n2 := fun w1 h1 => rdflag_any w1 F g s1 h1
  have l2 := Nat.le_trans (rdFlag_left s1) l1
  obtain ⟨⟨ok, s2⟩, hq2⟩ : ∃ q, rdFlag s1 = q := ⟨_, rfl⟩
  simp only [hq2] at n2 l2 hP
  have n3 := fun w1 h1 => rdnumber_any w1 F g s2 h1 30
  have m3 := rdNum_most 30 s2 (by omega)
  have l3 := Nat.le_trans (rdNum_left 30 s2) l2
  obtain ⟨⟨nn, s3⟩, hq3⟩ : ∃ q, rdNum 30 s2 = q := ⟨_, rfl⟩
  simp only [hq3] at n3 m3 l3 hP
  obtain ⟨n, rfl⟩ : ∃ n : Nat, nn = (n : Int) := ⟨nn.toNat, by omega⟩
  have hn30 : n ≤ 30 := by omega
  simp only [Int.toNat_natCast] at hP
  have n4 := fun k w1 h1 => jread_any w1 F g (rdEnts k s3).2 h1 (Nat.le_trans (rdEnts_left k s3) l3)
  have l4 := Nat.le_trans (rdEnts_left n s3) l3
  have bad4 := fun k (h : (rdEnts k s3).1.2 = false) (hk : k ≤ n) => rdEnts_bad h hk
  obtain ⟨⟨⟨es, eok⟩, s4⟩, hq4⟩ : ∃ q, rdEnts n s3 = q := ⟨_, rfl⟩
  simp only [hq4] at l4 bad4 hP
  have n5 := fun w1 h1 => jreadBase_any w1 F g s4 h1
  have l5 := Nat.le_trans (rdBas0_left s4) l4
  have sz5 := fun (y : BasM) (h : y.x = (rdBas s4).1) => CfgSz.readB h
  obtain ⟨⟨bs, bok⟩, hq5⟩ : ∃ q, rdBas s4 = q := ⟨_, rfl⟩
  obtain ⟨s5, hq5'⟩ : ∃ q, (rdBas0 s4).2 = q := ⟨_, rfl⟩
  simp only [hq5, hq5'] at n5 l5 sz5 hP
  have l6 := Nat.le_trans (rdNs_left 1073741824 2 s5) l5
  have len6 := rdNs_len2 1073741824 2 s5
  obtain ⟨⟨qs, s6⟩, hq6⟩ : ∃ q, rdNs 1073741824 2 s5 = q := ⟨_, rfl⟩
  simp only [hq6] at hP l6 len6
  obtain ⟨b0, b1, rfl⟩ : ∃ b0 b1, qs = [b0, b1] := by
    match qs, len6 with
    | [b0, b1], _ => exact ⟨b0, b1, rfl⟩
  simp only [List.getD_cons_zero, List.getD_cons_succ] at hP
  have n7 := fun w1 h1 => rdnumber_any w1 F g s6 h1 4611686018427387903
  have l7 := Nat.le_trans (rdNum_left 4611686018427387903 s6) l6
  obtain ⟨⟨tg, s7⟩, hq7⟩ : ∃ q, rdNum 4611686018427387903 s6 = q := ⟨_, rfl⟩
  simp only [hq7] at n7 l7 hP
  have n8 := fun w1 h1 => rdrow_any w1 F g s7 h1 131072 l7
  have m8 := rdRow_len 131072 (by omega) s7
  obtain ⟨⟨by_, s8⟩, hq8⟩ : ∃ q, rdRow 131072 s7 = q := ⟨_, rfl⟩
  simp only [hq8] at n8 m8 hP
  have N2 := Lib.hid n2
  have N3 := Lib.hid n3
  have N4 := Lib.hid n4
  have B4 := Lib.hid bad4
  have Q4 := Lib.hid hq4
  have N5 := Lib.hid n5
  have Z5 := Lib.hid sz5
  have Q6 := Lib.hid hq6
  have N7 := Lib.hid n7
  have N8 := Lib.hid n8
  have M8 := Lib.hid m8
  have Q1 := Lib.hid hq1
  have HP := Lib.hid hP
  clear l1 l2 l3 l4 l5 l6 l7 len1 len6 n2 n3 n4 n5 n7 n8 m8 bad4 hq4 sz5 hq6 hq1 hP hq2 hq3 hq5 hq5' hq7 hq8 m3 m1 cons1
  have hgl := h.lt
  have hFl := h.out.2
  obtain ⟨sb, hsb⟩ : ∃ X, X = w.heap.size := ⟨_, rfl⟩
  obtain ⟨R, hR⟩ : ∃ X, X = w.heap.size + 1 := ⟨_, rfl⟩
  obtain ⟨X, hX⟩ : ∃ X, X = w.heap.size + 1 + 1 := ⟨_, rfl⟩
  obtain ⟨kb, hkb⟩ : ∃ X, X = w.heap.size + 1 + 1 + 1 := ⟨_, rfl⟩
  obtain ⟨Ws, hWs⟩ : ∃ W, W = w.alloc (.cells #[.pointer (some ⟨g, 0, none⟩)] 148) := ⟨_, rfl⟩
  have ps : Nw w Ws := by rw [hWs]; exact (Fr.refl (fun _ => False) _).alloc _
  have zs : Ws.heap.size = w.heap.size + 1 := by rw [hWs]; simp
  have bs0 : Blk Ws sb 148 #[.pointer (some ⟨g, 0, none⟩)] := by rw [hWs, hsb]; exact Blk.new _ _ _
  obtain ⟨Wr, hWr⟩ : ∃ W, W = Ws.alloc (.cells #[U8V 0, I64 0, I64 0, I64 0, I64 0, I64 0, I64 0, I64 0, .bool false, .slice none 0 0, I64 0, I64 0, .slice none 0 0, .slice none 0 0, .slice none 0 0, .slice none 0 0, I64 0, I64 0, I64 0, .slice none 0 0] 50) := ⟨_, rfl⟩
  have pr : Nw Ws Wr := by rw [hWr]; exact (Fr.refl (fun _ => False) _).alloc _
  have zr : Wr.heap.size = w.heap.size + 1 + 1 := by rw [hWr]; simp [zs]
  have br0 : Blk Wr R 50 #[U8V 0, I64 0, I64 0, I64 0, I64 0, I64 0, I64 0, I64 0, .bool false, .slice none 0 0, I64 0, I64 0, .slice none 0 0, .slice none 0 0, .slice none 0 0, .slice none 0 0, I64 0, I64 0, I64 0, .slice none 0 0] := by rw [hWr, hR, ← zs]; exact Blk.new _ _ _
  obtain ⟨Wx, hWx⟩ : ∃ W, W = Wr.alloc (.cells #[U8V 0, I64 0, I64 0, I64 0, I64 0, I64 0, I64 0, I64 0, .bool false, .slice none 0 0, I64 0, I64 0, .slice none 0 0, .slice none 0 0, .slice none 0 0, .slice none 0 0, I64 0, I64 0, I64 0, .slice none 0 0] 50) := ⟨_, rfl⟩
  have px : Nw Wr Wx := by rw [hWx]; exact (Fr.refl (fun _ => False) _).alloc _
  have zx : Wx.heap.size = w.heap.size + 1 + 1 + 1 := by rw [hWx]; simp [zr]
  have bx0 : Blk Wx X 50 #[U8V 0, I64 0, I64 0, I64 0, I64 0, I64 0, I64 0, I64 0, .bool false, .slice none 0 0, I64 0, I64 0, .slice none 0 0, .slice none 0 0, .slice none 0 0, .slice none 0 0, I64 0, I64 0, I64 0, .slice none 0 0] := by rw [hWx, hX, ← zr]; exact Blk.new _ _ _
  obtain ⟨Wk, hWk⟩ : ∃ W, W = Wx.alloc (.cells #[I64 0] 3) := ⟨_, rfl⟩
  have pk : Nw Wx Wk := by rw [hWk]; exact (Fr.refl (fun _ => False) _).alloc _
  have zk : Wk.heap.size = kb + 1 := by rw [hWk, hkb]; simp [zx]
  have bk0 : Blk Wk kb 3 #[I64 0] := by rw [hWk, hkb, ← zx]; exact Blk.new _ _ _
  obtain ⟨W0, hW0⟩ : ∃ W, W = Wk := ⟨_, rfl⟩
  have z0 : W0.heap.size = kb + 1 := by rw [hW0]; exact zk
  have K0 : Blk W0 kb 3 #[I64 0] := by rw [hW0]; exact bk0
  have X0 : Blk W0 X 50 #[U8V 0, I64 0, I64 0, I64 0, I64 0, I64 0, I64 0, I64 0, .bool false, .slice none 0 0, I64 0, I64 0, .slice none 0 0, .slice none 0 0, .slice none 0 0, .slice none 0 0, I64 0, I64 0, I64 0, .slice none 0 0] := by rw [hW0]; exact bx0.fr pk (fun h => h)
  have R0 : Blk W0 R 50 #[U8V 0, I64 0, I64 0, I64 0, I64 0, I64 0, I64 0, I64 0, .bool false, .slice none 0 0, I64 0, I64 0, .slice none 0 0, .slice none 0 0, .slice none 0 0, .slice none 0 0, I64 0, I64 0, I64 0, .slice none 0 0] := by rw [hW0]; exact (br0.fr px (fun h => h)).fr pk (fun h => h)
  have S0 : Blk W0 sb 148 #[.pointer (some ⟨g, 0, none⟩)] := by rw [hW0]; exact ((bs0.fr pr (fun h => h)).fr px (fun h => h)).fr pk (fun h => h)
  have T0 : Nw w W0 := by rw [hW0]; exact ((ps.tr pr).tr px).tr pk
  have h0 := h.fr T0 (fun h => h) (fun _ _ h => h)
  have hgs : g ≠ sb ∧ g ≠ R ∧ g ≠ X ∧ g ≠ kb := by omega
  have hss : sb ≠ R ∧ sb ≠ X ∧ sb ≠ kb ∧ R ≠ X ∧ R ≠ kb ∧ X ≠ kb := by omega
  have hws : w.heap.size ≤ sb ∧ w.heap.size ≤ R ∧ w.heap.size ≤ X ∧ w.heap.size ≤ kb := by omega
  have hlk : sb < kb + 1 ∧ R < kb + 1 ∧ X < kb + 1 ∧ kb < kb + 1 := by omega
  have hFk : ∀ k, F k → k < sb ∧ k < R ∧ k < X ∧ k < kb := fun k hk => by have := hFl k hk; omega
  obtain ⟨KK, hKK⟩ : ∃ K : World → Prop, K = fun wz => Blk wz sb 148 #[.pointer (some ⟨g, 0, none⟩)] ∧ Blk wz R 50 #[U8V 0, I64 0, I64 0, I64 0, I64 0, I64 0, I64 0, I64 0, .bool false, .slice none 0 0, I64 0, I64 0, .slice none 0 0, .slice none 0 0, .slice none 0 0, .slice none 0 0, I64 0, I64 0, I64 0, .slice none 0 0] ∧ Blk wz kb 3 #[I64 a0] := ⟨_, rfl⟩
  have hKe : ∀ wz, KK wz → Blk wz sb 148 #[.pointer (some ⟨g, 0, none⟩)] ∧ Blk wz R 50 #[U8V 0, I64 0, I64 0, I64 0, I64 0, I64 0, I64 0, I64 0, .bool false, .slice none 0 0, I64 0, I64 0, .slice none 0 0, .slice none 0 0, .slice none 0 0, .slice none 0 0, I64 0, I64 0, I64 0, .slice none 0 0] ∧ Blk wz kb 3 #[I64 a0] := fun wz hk => by rw [hKK] at hk; exact hk
  have hKi : ∀ wz, Blk wz sb 148 #[.pointer (some ⟨g, 0, none⟩)] ∧ Blk wz R 50 #[U8V 0, I64 0, I64 0, I64 0, I64 0, I64 0, I64 0, I64 0, .bool false, .slice none 0 0, I64 0, I64 0, .slice none 0 0, .slice none 0 0, .slice none 0 0, .slice none 0 0, I64 0, I64 0, I64 0, .slice none 0 0] ∧ Blk wz kb 3 #[I64 a0] → KK wz := fun wz hk => by rw [hKK]; exact hk
  have hKs : ∀ a c, Fr (fun k => k = g ∨ k = X) a c → KK a → KK c := fun a c f hk => by
    obtain ⟨k1, k2, k3⟩ := hKe _ hk
    exact hKi _ ⟨k1.fr f (by omega), k2.fr f (by omega), k3.fr f (by omega)⟩
  have hnum : ∀ w1 gp, Nw W0 w1 → W0.heap.size ≤ gp → Sl w1 (· = gp) (some ⟨gp, 0, none⟩) [ptrV kb 0, ptrV X 1, ptrV X 2, ptrV X 3, ptrV X 4, ptrV X 5, ptrV X 6, ptrV X 7] → Calls Tryz.prog 165 #[.agg #[.pointer (some ⟨g, 0, none⟩)], .slice (some ⟨gp, 0, none⟩) 8 8] w1 fun e w' => e = .returned (.tuple #[]) ∧ RSt true w w' F g X 50 KK s1 #[U8V 0, I64 a1, I64 a2, I64 a3, I64 a4, I64 a5, I64 a6, I64 a7, .bool false, .slice none 0 0, I64 0, I64 0, .slice none 0 0, .slice none 0 0, .slice none 0 0, .slice none 0 0, I64 0, I64 0, I64 0, .slice none 0 0] := by
    intro w1 gp q1 hgp hsl
    have c := lnumbersG_any w1 F (fun k => k = kb ∨ k = X) g s (h0.fr q1 (fun h => h) (fun _ _ h => h)) ((kb, 0) :: [1, 2, 3, 4, 5, 6, 7].map (fun o => (X, o))) (HeadAt kb X 50 #[U8V 0, I64 0, I64 0, I64 0, I64 0, I64 0, I64 0, I64 0, .bool false, .slice none 0 0, I64 0, I64 0, .slice none 0 0, .slice none 0 0, .slice none 0 0, .slice none 0 0, I64 0, I64 0, I64 0, .slice none 0 0] [1, 2, 3, 4, 5, 6, 7])
      ⟨K0.fr q1 (fun h => h), X0.fr q1 (fun h => h)⟩ (fun l a c f h => ⟨h.1.fr f (by omega), h.2.fr f (by omega)⟩) (HeadAt.step (by omega) (by decide)) (fun p hp => ?_) (fun k hk => ?_) (by omega) (fun k hk => by have := hFk k hk; omega) (· = gp) (some ⟨gp, 0, none⟩) 8 hsl (fun k hk => by omega) (by simp)
    · refine c.mono ?_
      rintro e w' ⟨rfl, r1, r2, r3⟩
      have e8 : ((kb, 0) :: [1, 2, 3, 4, 5, 6, 7].map (fun o => (X, o))).length = 8 := rfl
      rw [e8, Q1.out] at r1 r2
      refine ⟨rfl, r1, r2.2, hKi _ ⟨(S0.fr q1 (fun h => h)).fr r3 (by omega), (R0.fr q1 (fun h => h)).fr r3 (by omega), r2.1⟩, (Nw.on (T0.tr q1)).trans r3 (fun j hj => ?_), by omega, fun hf => by have := hFk _ hf; omega, by omega, hKs⟩
      rcases hj with rfl | rfl | rfl
      · exact .inl rfl
      · exact .inr (by omega)
      · exact .inr (by omega)
    · rcases List.mem_cons.1 hp with rfl | hp
      · exact .inl rfl
      · obtain ⟨o, _, rfl⟩ := List.mem_map.1 hp
        exact .inr rfl
    · have := q1.size
      omega
  have hsc := S0.cell 0
  have HNUM := Lib.hid hnum
  have Hsb := Lib.hid hsb
  have HR := Lib.hid hR
  have HX := Lib.hid hX
  have Hkb := Lib.hid hkb
  have HWs := Lib.hid hWs
  have HWr := Lib.hid hWr
  have HWx := Lib.hid hWx
  have HWk := Lib.hid hWk
  have HW0 := Lib.hid hW0
  clear hnum hsb hR hX hkb hWs hWr hWx hWk hW0 hKK ps zs bs0 pr zr br0 px zx bx0 pk zk bk0 z0 K0 X0 R0 S0 h0
  simp at hsc
  go_enter Tryz.func99, Tryz.ntmps99
  go_upto_region 3 with (fail)
  rw [← Hkb.out, ← HX.out, ← HR.out, ← Hsb.out, ← HWs.out, ← HWr.out, ← HWx.out, ← HWk.out, ← HW0.out]
  go_upto_region 4 with (go_at_call 165; refine (HNUM.out _ W0.heap.size ((Fr.refl (fun _ => False) W0).alloc _) (Nat.le_refl _) ((Blk.new W0 _ _).sl 0 8)).mono ?_; rintro e w1 ⟨rfl, st1⟩; have kc1 : w1.cell? ⟨kb, 0, none⟩ = some (I64 a0) := (by simpa using (hKe _ st1.k).2.2.cell 0))
  clear HNUM hsc T0
  have sc1 : w1.cell? ⟨sb, 0, none⟩ = some (.pointer (some ⟨g, 0, none⟩)) := by simpa using (hKe _ st1.k).1.cell 0
  by_cases h256 : a0 < 256
  case neg =>
    have hm := lmust_no w1
    rw [← decide_eq_false h256] at hm
    have hpn : p = none := by rw [← HP.out]; exact if_neg (fun hh => h256 hh.1)
    have HM := Lib.hid hm
    have HPN := Lib.hid hpn
    clear hm hpn h256
    go_upto_region 5 with (go_at_call 97; refine HM.out.mono ?_; rintro e w2 ⟨rfl, rfl⟩)
    refine ⟨rfl, ?_⟩
    rw [HPN.out]
    exact ⟨st1.fr, rfl⟩
  have hkw : a0 % 256 = a0 := by omega
  have hwrap : IntKind.u8.wrap a0 = a0 := by first | (rw [IntKind.wrap_u8]; omega) | (simp [IntKind.wrap]; omega) | exact hkw
  have hm := lmust_yes w1
  rw [← decide_eq_true h256] at hm
  have HM := Lib.hid hm
  have H256 := Lib.hid h256
  clear hm h256
  go_upto_region 5 with (go_at_call 97; refine HM.out.mono ?_; rintro e w2 ⟨rfl, rfl⟩)
  clear HM kc1 sc1
  refine wp_region_eff (FlagC fun c a b wz => RSt true w wz F g X 50 KK (bif c then s2 else s1) #[(bif a then U8V a0 else U8V 0), I64 a1, I64 a2, I64 a3, I64 a4, I64 a5, I64 a6, I64 a7, (bif b then .bool ok else .bool false), .slice none 0 0, I64 0, I64 0, .slice none 0 0, .slice none 0 0, .slice none 0 0, .slice none 0 0, I64 0, I64 0, I64 0, .slice none 0 0]) (by kernel_rfl) (by kernel_rfl) (st1.nw ((Fr.refl (fun _ => False) w1).drew)) ?_
  clear st1
  apply wpEff_cons
  focus
    intro L wz hL hD hC
    have hx : wz.cell? ⟨kb, 0, none⟩ = some (I64 a0) := by simpa using (hKe _ (RSt.k hC)).2.2.cell 0
    refine .inl ⟨by rfl, ?_⟩
    unfold effAt
    go_simp
    exact ⟨rfl, hC.keep (by rfl) (by rfl) (by rfl)⟩
  simp only [Act.put, List.setIfInBounds_toArray, List.set_cons_zero, List.set_cons_succ]
  apply wpEff_cons
  focus
    intro L wz hL hD hC
    refine .inl ⟨by rfl, ?_⟩
    unfold effAt
    go_simp
    exact ⟨rfl, hC.keep (by rfl) (by rfl) (by rfl)⟩
  simp only [Act.put, List.setIfInBounds_toArray, List.set_cons_zero, List.set_cons_succ]
  apply wpEff_cons
  focus
    intro L wz hL hD hC
    refine .inl ⟨by rfl, ?_⟩
    unfold effAt
    go_simp
    exact ⟨rfl, hC.keep (by rfl) (by rfl) (by rfl)⟩
  simp only [Act.put, List.setIfInBounds_toArray, List.set_cons_zero, List.set_cons_succ]
  apply wpEff_cons
  focus
    intro L wz hL hD hC
    have hx : wz.cell? ⟨sb, 0, none⟩ = some (.pointer (some ⟨g, 0, none⟩)) := by simpa using (hKe _ (RSt.k hC)).1.cell 0
    refine .inl ⟨by rfl, ?_⟩
    unfold effAt
    go_simp
    exact ⟨rfl, hC.keep (by rfl) (by rfl) (by rfl)⟩
  simp only [Act.put, List.setIfInBounds_toArray, List.set_cons_zero, List.set_cons_succ]
  apply wpEff_cons
  focus
    intro L wz hL hD hC
    obtain ⟨h1, h2⟩ := hC.c4 hL
    refine .inl ⟨by rfl, ?_⟩
    unfold effAt
    go_simp
    refine (N2.out _ h1.rd).mono ?_
    rintro e w9 ⟨he, hr9⟩
    exact ⟨he, h2 _ (RSt.callP h1 hr9)⟩
  simp only [Act.put, List.setIfInBounds_toArray, List.set_cons_zero, List.set_cons_succ]
  apply wpEff_cons
  focus
    intro L wz hL hD hC
    refine .inl ⟨by rfl, ?_⟩
    unfold effAt
    go_simp
    exact ⟨rfl, hC.keep (by rfl) (by rfl) (by rfl)⟩
  simp only [Act.put, List.setIfInBounds_toArray, List.set_cons_zero, List.set_cons_succ]
  apply wpEff_cons
  focus
    intro L wz hL hD hC
    obtain ⟨h1, h2⟩ := hC.c6 hL
    have hx : wz.cell? ⟨X, 0, none⟩ = some (U8V 0) := by simpa using h1.x.cell 0
    have hf := h1.x.frozen 0
    refine .inl ⟨by rfl, ?_⟩
    unfold effAt
    go_simp
    exact ⟨rfl, h2 _ (RSt.set_ h1 0 (U8V a0))⟩
  simp only [Act.put, List.setIfInBounds_toArray, List.set_cons_zero, List.set_cons_succ]
  apply wpEff_cons
  focus
    intro L wz hL hD hC
    refine .inl ⟨by rfl, ?_⟩
    unfold effAt
    go_simp
    exact ⟨rfl, hC.keep (by rfl) (by rfl) (by rfl)⟩
  simp only [Act.put, List.setIfInBounds_toArray, List.set_cons_zero, List.set_cons_succ]
  apply wpEff_cons
  focus
    intro L wz hL hD hC
    obtain ⟨h1, h2⟩ := hC.c8 hL
    have hx : wz.cell? ⟨X, 8, none⟩ = some (.bool false) := by simpa using h1.x.cell 8
    have hf := h1.x.frozen 8
    refine .inl ⟨by rfl, ?_⟩
    unfold effAt
    go_simp
    exact ⟨rfl, h2 _ (RSt.set_ h1 8 (.bool ok))⟩
  simp only [Act.put, List.setIfInBounds_toArray, List.set_cons_zero, List.set_cons_succ]
  refine wpEff_nil fun w2 hC => ?_
  have st2 : RSt true w w2 F g X 50 KK s2 #[U8V a0, I64 a1, I64 a2, I64 a3, I64 a4, I64 a5, I64 a6, I64 a7, .bool ok, .slice none 0 0, I64 0, I64 0, .slice none 0 0, .slice none 0 0, .slice none 0 0, .slice none 0 0, I64 0, I64 0, I64 0, .slice none 0 0] := hC
  clear hC hwrap
  have hag : ∀ (W : World), kb < W.heap.size → ∀ A, (∀ j, inA A j → W.heap.size ≤ j) → ∀ j, inA A j → j ≠ g ∧ j ≠ X ∧ j ≠ sb ∧ j ≠ R ∧ j ≠ kb ∧ w.heap.size ≤ j ∧ ¬ F j := fun W hW A hA j hj => by
    have h1 := hA j hj
    refine ⟨by omega, by omega, by omega, by omega, by omega, by omega, fun hf => ?_⟩
    have := hFk j hf
    omega
  have sc2 : w2.cell? ⟨sb, 0, none⟩ = some (.pointer (some ⟨g, 0, none⟩)) := by simpa using (hKe _ st2.k).1.cell 0
  have HAG := Lib.hid hag
  have HFK := Lib.hid hFk
  have HKE := Lib.hid hKe
  have HKI := Lib.hid hKi
  have HKS := Lib.hid hKs
  clear hag hFk hKe hKi hKs hFl
  go_wp2_with fail
  refine (N3.out _ st2.rd).mono ?_
  rintro e w3 ⟨rfl, h3⟩
  have st3 := st2.callP h3
  have hkw3 : kb < w3.heap.size := (HKE.out _ st3.k).2.2.lt
  clear st2 sc2 h3
  go_wp2_with fail
  go_loopw [32] (fun i wx => LeRel w w3 F g X KK (fun v => #[U8V a0, I64 a1, I64 a2, I64 a3, I64 a4, I64 a5, I64 a6, I64 a7, .bool ok, v, I64 0, I64 0, .slice none 0 0, .slice none 0 0, .slice none 0 0, .slice none 0 0, I64 0, I64 0, I64 0, .slice none 0 0]) s3 n i wx) (fun i _ => n - (intOf i).toNat)
  case atStart => exact ⟨0, lsZ, Nat.zero_le _, rfl, rfl, st3, ⟨Own.nil _ _ _, fun k hk => (inA_none k hk).elim⟩, EntsHd.nil _ _, (by intro e he; cases he), rfl, rfl, Nat.le_refl _⟩
  case round =>
    clear st3
    obtain ⟨k, cur, hk, rfl, hcl, st, ho, he, hz, hm, hb, hwz⟩ := hrel
    by_cases hlt : k < n
    · have hi0 : (k : Int) < (n : Int) := by omega
      have sc : wr.cell? ⟨sb, 0, none⟩ = some (.pointer (some ⟨g, 0, none⟩)) := by simpa using (HKE.out _ st.k).1.cell 0
      have hsucc : rdEnts (k + 1) s3 = (((rdEnts k s3).1.1 ++ [(rdEnt (rdEnts k s3).2).1], (rdEnts k s3).1.2 && (rdEnt (rdEnts k s3).2).2), (rdEnt0 (rdEnts k s3).2).2) := rfl
      have hcall := fun w1 h1 => N4.out k w1 h1
      have hzs := fun (y : EntM) h => EntSz.read (y := y) (s := (rdEnts k s3).2) h
      have hbad := fun h => B4.out (k + 1) h hlt
      rw [hsucc, hb] at hbad
      rw [hb] at hsucc
      simp only [Bool.true_and] at hbad hsucc
      generalize (rdEnts k s3).1.1 = es0 at hsucc hm
      obtain ⟨sk, hsk⟩ : ∃ q, (rdEnts k s3).2 = q := ⟨_, rfl⟩
      rw [hsk] at hsucc hcall hzs hbad st
      obtain ⟨⟨qe, qd⟩, hqe⟩ : ∃ q, rdEnt sk = q := ⟨_, rfl⟩
      obtain ⟨sn, hsn⟩ : ∃ q, (rdEnt0 sk).2 = q := ⟨_, rfl⟩
      simp only [hqe, hsn] at hsucc hcall hzs hbad
      have HS := Lib.hid hsucc
      have HCA := Lib.hid hcall
      have HZS := Lib.hid hzs
      have HBD := Lib.hid hbad
      have HE := Lib.hid he
      have HZ := Lib.hid hz
      have HM := Lib.hid hm
      clear hsucc hcall hzs hbad he hz hm hb hsk hqe hsn
      go_wp2_with fail
      refine (HCA.out _ st.rd).mono ?_
      rintro e w4 ⟨y, rfl, ey, oy, h4⟩
      have st4 := st.callP h4
      obtain ⟨G, hG⟩ : ∃ G, G = w4.heap.size := ⟨_, rfl⟩
      obtain ⟨V0, hV0⟩ : ∃ V, V = w4.alloc (.cells #[I64 0, U8V 0, .slice none 0 0, .slice none 0 0, .slice none 0 0, .slice none 0 0, .slice none 0 0] 87) := ⟨_, rfl⟩
      have qv0 : Nw w4 V0 := by rw [hV0]; exact (Fr.refl (fun _ => False) w4).alloc _
      have g0 : Blk V0 G 87 #[I64 0, U8V 0, .slice none 0 0, .slice none 0 0, .slice none 0 0, .slice none 0 0, .slice none 0 0] := by rw [hV0, hG]; exact Blk.new _ _ _
      obtain ⟨V1, hV1⟩ : ∃ V, V = V0.setCells G 0 [I64 y.term, U8V y.kind, .slice y.cmd.a y.cmd.l.length y.cmd.c, .slice y.cfg.v.a y.cfg.v.l.length y.cfg.v.c, .slice y.cfg.o.a y.cfg.o.l.length y.cfg.o.c, .slice y.cfg.l.a y.cfg.l.l.length y.cfg.l.c, .slice y.cfg.w.a y.cfg.w.l.length y.cfg.w.c] := ⟨_, rfl⟩
      have g1 : Blk V1 G 87 #[I64 y.term, U8V y.kind, .slice y.cmd.a y.cmd.l.length y.cmd.c, .slice y.cfg.v.a y.cfg.v.l.length y.cfg.v.c, .slice y.cfg.o.a y.cfg.o.l.length y.cfg.o.c, .slice y.cfg.l.a y.cfg.l.l.length y.cfg.l.c, .slice y.cfg.w.a y.cfg.w.l.length y.cfg.w.c] := by rw [hV1]; exact Blk.setCells (l := [I64 0, U8V 0, .slice none 0 0, .slice none 0 0, .slice none 0 0, .slice none 0 0, .slice none 0 0]) g0 0 [I64 y.term, U8V y.kind, .slice y.cmd.a y.cmd.l.length y.cmd.c, .slice y.cfg.v.a y.cfg.v.l.length y.cfg.v.c, .slice y.cfg.o.a y.cfg.o.l.length y.cfg.o.c, .slice y.cfg.l.a y.cfg.l.l.length y.cfg.l.c, .slice y.cfg.w.a y.cfg.w.l.length y.cfg.w.c]
      have m1 : Fr (· = G) V0 V1 := by rw [hV1]; exact (Fr.refl (· = G) _).setCells _ _
      have qv1 : Nw w4 V1 := qv0.new m1 (fun b hb => by omega)
      have hth := Blk.there (l := [I64 0, U8V 0, .slice none 0 0, .slice none 0 0, .slice none 0 0, .slice none 0 0, .slice none 0 0]) g0 0 7 (by show 0 + 7 ≤ 7; omega)
      have hone := entA_one y
      have hcy := entL_cell y
      have st5 := st4.nw qv1
      have hlg := Blk.cells_at (l := [I64 y.term, U8V y.kind, .slice y.cmd.a y.cmd.l.length y.cmd.c, .slice y.cfg.v.a y.cfg.v.l.length y.cfg.v.c, .slice y.cfg.o.a y.cfg.o.l.length y.cfg.o.c, .slice y.cfg.l.a y.cfg.l.l.length y.cfg.l.c, .slice y.cfg.w.a y.cfg.w.l.length y.cfg.w.c]) g1 0
      have HG := Lib.hid hG
      have HV0 := Lib.hid hV0
      have HV1 := Lib.hid hV1
      have HEY := Lib.hid ey
      clear hG hV0 hV1 m1 g0 qv0 ey st4 sc
      go_upto_region 9 with (rw [← HG.out, ← HV0.out]; refine wpList_store_mid rfl 87 _ _ rfl G 0 #[I64 y.term, U8V y.kind, .slice y.cmd.a y.cmd.l.length y.cmd.c, .slice y.cfg.v.a y.cfg.v.l.length y.cfg.v.c, .slice y.cfg.o.a y.cfg.o.l.length y.cfg.o.c, .slice y.cfg.l.a y.cfg.l.l.length y.cfg.l.c, .slice y.cfg.w.a y.cfg.w.l.length y.cfg.w.c] rfl rfl hth (by kernel_rfl) hone ?_; rw [← HV1.out])
      cases qd with
      | false =>
        have hpn : p = none := by rw [← HP.out]; exact if_neg (fun hh => by have := HBD.out rfl; rw [this] at hh; exact absurd hh.2.1 (by simp))
        have HPN := Lib.hid hpn
        clear hpn
        go_wp2_with fail
        refine (lmust_no V1).mono ?_
        rintro e w5 ⟨rfl, rfl⟩
        refine ⟨rfl, ?_⟩
        rw [HPN.out]
        exact ⟨st5.fr, rfl⟩
      | true =>
        go_upto_region 10 with (go_at_call 97; refine (lmust_yes V1).mono ?_; rintro e w5 ⟨rfl, rfl⟩)
        obtain ⟨V2, hV2⟩ : ∃ V, V = V1.alloc (.cells #[I64 y.term, U8V y.kind, .slice y.cmd.a y.cmd.l.length y.cmd.c, .slice y.cfg.v.a y.cfg.v.l.length y.cfg.v.c, .slice y.cfg.o.a y.cfg.o.l.length y.cfg.o.c, .slice y.cfg.l.a y.cfg.l.l.length y.cfg.l.c, .slice y.cfg.w.a y.cfg.w.l.length y.cfg.w.c] 87) := ⟨_, rfl⟩
        have sln := sl_new V1 87 [I64 y.term, U8V y.kind, .slice y.cmd.a y.cmd.l.length y.cmd.c, .slice y.cfg.v.a y.cfg.v.l.length y.cfg.v.c, .slice y.cfg.o.a y.cfg.o.l.length y.cfg.o.c, .slice y.cfg.l.a y.cfg.l.l.length y.cfg.l.c, .slice y.cfg.w.a y.cfg.w.l.length y.cfg.w.c] _ rfl
        have qv2 : Nw V1 V2 := by rw [hV2]; exact (Fr.refl (fun _ => False) V1).alloc _
        have st6 := st5.nw qv2
        have hAg := HAG.out w3 hkw3 cur.a ho.base
        have ho4 := ho.fr h4.2 (fun j hj => (hAg j hj).1)
        have hoa := ((ho4.nw qv1).nw qv2).own
        have c9 : V1.cell? ⟨X, 9, none⟩ = some (.slice cur.a cur.l.length cur.c) := by simpa using st5.x.cell 9
        rw [← hV2] at sln
        have HV2 := Lib.hid hV2
        have HCL := Lib.hid hcl
        have hcl30 : cur.l.length ≤ 30 := by omega
        have hS6 : ∀ (B' : Option Addr) (c' : Nat) (w5 : World), AppTo V2 87 7 cur.a cur.l.length cur.c 1 (entsC cur.l) [I64 y.term, U8V y.kind, .slice y.cmd.a y.cmd.l.length y.cmd.c, .slice y.cfg.v.a y.cfg.v.l.length y.cfg.v.c, .slice y.cfg.o.a y.cfg.o.l.length y.cfg.o.c, .slice y.cfg.l.a y.cfg.l.l.length y.cfg.l.c, .slice y.cfg.w.a y.cfg.w.l.length y.cfg.w.c] B' c' w5 → RSt true w w5 F g X 50 KK sn #[U8V a0, I64 a1, I64 a2, I64 a3, I64 a4, I64 a5, I64 a6, I64 a7, .bool ok, .slice cur.a cur.l.length cur.c, I64 0, I64 0, .slice none 0 0, .slice none 0 0, .slice none 0 0, .slice none 0 0, I64 0, I64 0, I64 0, .slice none 0 0] := fun B' c' w5 hap =>
          st6.other hap.fr (fun h => (hAg _ h).1 rfl) (fun h => (hAg _ h).2.1 rfl) (fun j hj h => (hAg _ h).2.2.2.2.2.2 hj) (fun j hj => (hAg _ hj).2.2.2.2.2.1) (HKI.out _ (by
            obtain ⟨k1, k2, k3⟩ := HKE.out _ st6.k
            exact ⟨k1.fr hap.fr (fun h => (hAg _ h).2.2.1 rfl), k2.fr hap.fr (fun h => (hAg _ h).2.2.2.1 rfl), k3.fr hap.fr (fun h => (hAg _ h).2.2.2.2.1 rfl)⟩)) HKS.out
        clear hV2 hcl st5
        go_wp2_with (first | (refine wl_load_cells rfl 87 _ rfl G 0 rfl [I64 y.term, U8V y.kind, .slice y.cmd.a y.cmd.l.length y.cmd.c, .slice y.cfg.v.a y.cfg.v.l.length y.cfg.v.c, .slice y.cfg.o.a y.cfg.o.l.length y.cfg.o.c, .slice y.cfg.l.a y.cfg.l.l.length y.cfg.l.c, .slice y.cfg.w.a y.cfg.w.l.length y.cfg.w.c] _ hlg Tryz.underlying87 rfl (by kernel_rfl) ?_) | (at_builtin; rw [← HV2.out]; refine wl_append2 rfl _ _ _ rfl 136 (.agg #[I64 0, U8V 0, .slice none 0 0, .slice none 0 0, .slice none 0 0, .slice none 0 0, .slice none 0 0]) Tryz.underlying43 info_entR rfl (by decide) rfl hoa rfl sln rfl hcy (by omega) (by unfold maxLen; omega) ?_; intro B' c' w5 hap; have st7 := hS6 B' c' w5 hap; have c95 : w5.cell? ⟨X, 9, none⟩ = some (.slice cur.a cur.l.length cur.c) := (by simpa using st7.x.cell 9); have f95 := st7.x.frozen 9))
        obtain ⟨w6, hw6⟩ : ∃ w6, w6 = w5.setCell ⟨X, 9, none⟩ (.slice B' (cur.l.length + 1) c') := ⟨_, rfl⟩
        have st8 : RSt true w w6 F g X 50 KK sn #[U8V a0, I64 a1, I64 a2, I64 a3, I64 a4, I64 a5, I64 a6, I64 a7, .bool ok, .slice B' (cur.l.length + 1) c', I64 0, I64 0, .slice none 0 0, .slice none 0 0, .slice none 0 0, .slice none 0 0, I64 0, I64 0, I64 0, .slice none 0 0] := by rw [hw6]; exact RSt.set_ st7 9 _
        have m6 : Fr (· = X) w5 w6 := by rw [hw6]; exact (Fr.refl (· = X) _).set1 _ _
        have HW6 := Lib.hid hw6
        rw [← HW6.out]
        clear hw6
        go_roundw
        case rel =>
          have hcl := HCL.out
          have hin : ∀ j, inA B' j → inA cur.a j ∨ j = V2.heap.size := hap.inA_
          have hBl : ∀ j, inA cur.a j → j < wr.heap.size := ho.own.lt
          have hs4 := h4.2.size
          have hs1 := qv1.size
          have hs2 := qv2.size
          have hs5 := hap.fr.size
          have hs6 := m6.size
          have hXw : X < w3.heap.size := by omega
          refine ⟨k + 1, ⟨B', c', cur.l ++ [y]⟩, by omega, by go_num, by simp [hcl], ?_, ⟨?_, fun j hj => ?_⟩, ?_, fun u hu => ?_, ?_, ?_, by omega⟩
          · rw [HS.out]
            show RSt true w w6 F g X 50 KK sn #[U8V a0, I64 a1, I64 a2, I64 a3, I64 a4, I64 a5, I64 a6, I64 a7, .bool ok, .slice B' (cur.l ++ [y]).length c', I64 0, I64 0, .slice none 0 0, .slice none 0 0, .slice none 0 0, .slice none 0 0, I64 0, I64 0, I64 0, .slice none 0 0]
            rw [List.length_append]
            exact st8
          · show Own w6 87 7 B' (cur.l ++ [y]).length c' (entsC (cur.l ++ [y]))
            rw [List.length_append, entsC_append, entsC_one]
            refine hap.1.fr m6 (fun j hj e => ?_)
            rcases hin j hj with h | h
            · have := ho.base j h
              omega
            · omega
          · rcases hin j hj with h | h
            · exact ho.base j h
            · rw [h]; omega
          · have i1 := (((HE.out.mono (G := fun j => (w3.heap.size ≤ j ∧ ¬ inA cur.a j) ∧ j < wr.heap.size) (fun j hj hl => ⟨hj, hl⟩)).fr h4.2 (fun j hj e => by have := hj.1.1; have := h.lt; omega)).nw qv1).nw qv2
            have i2 := (i1.fr hap.fr (fun j hj => hj.1.2)).fr m6 (fun j hj e => by have := hj.1.1; omega)
            have i3 := ((oy.hd.mono (G := fun j => wr.heap.size ≤ j ∧ j < w4.heap.size) (fun j hj hl => ⟨hj, hl⟩)).nw qv1).nw qv2
            have i4 := (i3.fr hap.fr (fun j hj e => by have := hBl j e; have := hj.1; omega)).fr m6 (fun j hj e => by have := hj.1; omega)
            refine i2.append i4 (fun j h1 h2 => by have := h1.2; have := h2.1; omega) (fun j hj _ => ⟨hj.1.1, fun hB => ?_⟩) (fun j hj _ => ⟨by have := hj.1; omega, fun hB => ?_⟩)
            · rcases hin j hB with h | h
              · exact hj.1.2 h
              · have := hj.2
                omega
            · rcases hin j hB with h | h
              · have := hBl j h
                have := hj.1
                omega
              · have := hj.2
                omega
          · rcases List.mem_append.1 hu with hu | hu
            · exact HZ.out u hu
            · rw [List.mem_singleton.1 hu]; exact HZS.out y HEY.out
          · rw [HS.out, List.map_append, HM.out, List.map_singleton, HEY.out]
          · rw [HS.out]
        case measure => simp [intOf]; omega
    · obtain rfl : k = n := by omega
      rw [Q4.out] at st hm hb
      simp only at st hm hb
      subst hb
      have sc : wr.cell? ⟨sb, 0, none⟩ = some (.pointer (some ⟨g, 0, none⟩)) := by simpa using (HKE.out _ st.k).1.cell 0
      have hz30 : cur.l.length ≤ 30 := by omega
      have HM := Lib.hid hm
      have HZ := Lib.hid hz
      have HCL := Lib.hid hcl
      clear hm hz hcl
      go_wp2_with fail
      refine (N5.out _ st.rd).mono ?_
      rintro e w4 ⟨y, rfl, ey, oy, h4⟩
      have hzc := Z5.out y ey
      have hg3 : g < w3.heap.size ∧ X < w3.heap.size ∧ R < w3.heap.size := by omega
      obtain ⟨K2, hK2⟩ : ∃ K : World → Prop, K = fun wz => LsOwn w3 wz 87 7 entsC cur ∧ EntsHd wz (fun j => w3.heap.size ≤ j ∧ j < wr.heap.size) cur.l ∧ CfgOwn wr wz y.cfg ∧ wr.heap.size ≤ wz.heap.size := ⟨_, rfl⟩
      have hK2s : ∀ a c, Fr (fun k => k = g ∨ k = X) a c → K2 a → K2 c := fun a c f hk => by
        rw [hK2] at hk ⊢
        obtain ⟨k1, k2, k3, k4⟩ := hk
        have hn : ∀ j, w3.heap.size ≤ j → ¬ (j = g ∨ j = X) := fun j hj e => by omega
        exact ⟨k1.fr f (fun j hj => hn j (k1.base j hj)), k2.fr f (fun j hj => hn j hj.1), k3.fr f (fun j hj => hn j (Nat.le_trans hwz hj)), Nat.le_trans k4 f.size⟩
      have k24 : K2 w4 := by
        rw [hK2]
        exact ⟨ho.fr h4.2 (fun j hj e => by have := ho.base j hj; omega), (he.mono (G := fun j => w3.heap.size ≤ j ∧ j < wr.heap.size) (fun j hj hl => ⟨hj.1, hl⟩)).fr h4.2 (fun j hj e => by have := hj.1; omega), oy, h4.2.size⟩
      have st4 := (st.callP h4).more k24 hK2s
      obtain ⟨G, hG⟩ : ∃ G, G = w4.heap.size := ⟨_, rfl⟩
      obtain ⟨V0, hV0⟩ : ∃ V, V = w4.alloc (.cells #[I64 0, I64 0, .slice none 0 0, .slice none 0 0, .slice none 0 0, .slice none 0 0] 47) := ⟨_, rfl⟩
      have qv0 : Nw w4 V0 := by rw [hV0]; exact (Fr.refl (fun _ => False) w4).alloc _
      have g0 : Blk V0 G 47 #[I64 0, I64 0, .slice none 0 0, .slice none 0 0, .slice none 0 0, .slice none 0 0] := by rw [hV0, hG]; exact Blk.new _ _ _
      obtain ⟨V1, hV1⟩ : ∃ V, V = V0.setCells G 0 [I64 y.index, I64 y.term, .slice y.cfg.v.a y.cfg.v.l.length y.cfg.v.c, .slice y.cfg.o.a y.cfg.o.l.length y.cfg.o.c, .slice y.cfg.l.a y.cfg.l.l.length y.cfg.l.c, .slice y.cfg.w.a y.cfg.w.l.length y.cfg.w.c] := ⟨_, rfl⟩
      have g1 : Blk V1 G 47 #[I64 y.index, I64 y.term, .slice y.cfg.v.a y.cfg.v.l.length y.cfg.v.c, .slice y.cfg.o.a y.cfg.o.l.length y.cfg.o.c, .slice y.cfg.l.a y.cfg.l.l.length y.cfg.l.c, .slice y.cfg.w.a y.cfg.w.l.length y.cfg.w.c] := by rw [hV1]; exact Blk.setCells (l := [I64 0, I64 0, .slice none 0 0, .slice none 0 0, .slice none 0 0, .slice none 0 0]) g0 0 [I64 y.index, I64 y.term, .slice y.cfg.v.a y.cfg.v.l.length y.cfg.v.c, .slice y.cfg.o.a y.cfg.o.l.length y.cfg.o.c, .slice y.cfg.l.a y.cfg.l.l.length y.cfg.l.c, .slice y.cfg.w.a y.cfg.w.l.length y.cfg.w.c]
      have m1 : Fr (· = G) V0 V1 := by rw [hV1]; exact (Fr.refl (· = G) _).setCells _ _
      have qv1 : Nw w4 V1 := qv0.new m1 (fun b hb => by omega)
      have hth := Blk.there (l := [I64 0, I64 0, .slice none 0 0, .slice none 0 0, .slice none 0 0, .slice none 0 0]) g0 0 6 (by show 0 + 6 ≤ 6; omega)
      have hone := basA_one y
      have st5 := st4.nw qv1
      have hlg := Blk.cells_at (l := [I64 y.index, I64 y.term, .slice y.cfg.v.a y.cfg.v.l.length y.cfg.v.c, .slice y.cfg.o.a y.cfg.o.l.length y.cfg.o.c, .slice y.cfg.l.a y.cfg.l.l.length y.cfg.l.c, .slice y.cfg.w.a y.cfg.w.l.length y.cfg.w.c]) g1 0
      have HG := Lib.hid hG
      have HV0 := Lib.hid hV0
      have HV1 := Lib.hid hV1
      have HEY := Lib.hid ey
      have HK2 := Lib.hid hK2
      have HK2S := Lib.hid hK2s
      have HZC := Lib.hid hzc
      clear hG hV0 hV1 m1 g0 qv0 ey st4 sc hK2 hK2s k24 oy ho he hzc st h4
      go_upto_region 13 with (rw [← HG.out, ← HV0.out]; refine wpList_store_mid rfl 47 _ _ rfl G 0 #[I64 y.index, I64 y.term, .slice y.cfg.v.a y.cfg.v.l.length y.cfg.v.c, .slice y.cfg.o.a y.cfg.o.l.length y.cfg.o.c, .slice y.cfg.l.a y.cfg.l.l.length y.cfg.l.c, .slice y.cfg.w.a y.cfg.w.l.length y.cfg.w.c] rfl rfl hth (by kernel_rfl) hone ?_; rw [← HV1.out])
      cases bok with
      | false =>
        have hpn : p = none := by rw [← HP.out]; exact if_neg (fun hh => absurd hh.2.2.1 (by simp))
        have HPN := Lib.hid hpn
        clear hpn
        go_wp2_with fail
        refine (lmust_no V1).mono ?_
        rintro e w5 ⟨rfl, rfl⟩
        refine ⟨rfl, ?_⟩
        rw [HPN.out]
        exact ⟨st5.fr, rfl⟩
      | true =>
        go_upto_region 14 with (go_at_call 97; refine (lmust_yes V1).mono ?_; rintro e w5 ⟨rfl, rfl⟩)
        have thx := Blk.there (l := [U8V a0, I64 a1, I64 a2, I64 a3, I64 a4, I64 a5, I64 a6, I64 a7, .bool ok, .slice cur.a cur.l.length cur.c, I64 0, I64 0, .slice none 0 0, .slice none 0 0, .slice none 0 0, .slice none 0 0, I64 0, I64 0, I64 0, .slice none 0 0]) st5.x 10 6 (by show 10 + 6 ≤ 20; omega)
        obtain ⟨V2, hV2⟩ : ∃ V, V = V1.setCells X 10 [I64 y.index, I64 y.term, .slice y.cfg.v.a y.cfg.v.l.length y.cfg.v.c, .slice y.cfg.o.a y.cfg.o.l.length y.cfg.o.c, .slice y.cfg.l.a y.cfg.l.l.length y.cfg.l.c, .slice y.cfg.w.a y.cfg.w.l.length y.cfg.w.c] := ⟨_, rfl⟩
        have m2 : Fr (· = X) V1 V2 := by rw [hV2]; exact (Fr.refl (· = X) _).setCells _ _
        have st6 := st5.both (s' := s5) (m2.mono fun b hb => .inl (.inr hb)) (st5.rd.fr m2 (fun e => st5.gX e) (fun j hj e => st5.FX (e ▸ hj))) (by rw [hV2]; exact Blk.setCells (l := [U8V a0, I64 a1, I64 a2, I64 a3, I64 a4, I64 a5, I64 a6, I64 a7, .bool ok, .slice cur.a cur.l.length cur.c, I64 0, I64 0, .slice none 0 0, .slice none 0 0, .slice none 0 0, .slice none 0 0, I64 0, I64 0, I64 0, .slice none 0 0]) st5.x 10 [I64 y.index, I64 y.term, .slice y.cfg.v.a y.cfg.v.l.length y.cfg.v.c, .slice y.cfg.o.a y.cfg.o.l.length y.cfg.o.c, .slice y.cfg.l.a y.cfg.l.l.length y.cfg.l.c, .slice y.cfg.w.a y.cfg.w.l.length y.cfg.w.c] : Blk V2 X 50 #[U8V a0, I64 a1, I64 a2, I64 a3, I64 a4, I64 a5, I64 a6, I64 a7, .bool ok, .slice cur.a cur.l.length cur.c, I64 y.index, I64 y.term, .slice y.cfg.v.a y.cfg.v.l.length y.cfg.v.c, .slice y.cfg.o.a y.cfg.o.l.length y.cfg.o.c, .slice y.cfg.l.a y.cfg.l.l.length y.cfg.l.c, .slice y.cfg.w.a y.cfg.w.l.length y.cfg.w.c, I64 0, I64 0, I64 0, .slice none 0 0])
        have HV2 := Lib.hid hV2
        clear hV2 st5 m2
        go_upto_region 15 with (first | (refine wl_load_cells rfl 47 _ rfl G 0 rfl [I64 y.index, I64 y.term, .slice y.cfg.v.a y.cfg.v.l.length y.cfg.v.c, .slice y.cfg.o.a y.cfg.o.l.length y.cfg.o.c, .slice y.cfg.l.a y.cfg.l.l.length y.cfg.l.c, .slice y.cfg.w.a y.cfg.w.l.length y.cfg.w.c] _ hlg Tryz.underlying47 rfl (by kernel_rfl) ?_) | (refine wpList_store_mid rfl 47 _ _ rfl X 10 #[I64 y.index, I64 y.term, .slice y.cfg.v.a y.cfg.v.l.length y.cfg.v.c, .slice y.cfg.o.a y.cfg.o.l.length y.cfg.o.c, .slice y.cfg.l.a y.cfg.l.l.length y.cfg.l.c, .slice y.cfg.w.a y.cfg.w.l.length y.cfg.w.c] rfl rfl thx (by kernel_rfl) hone ?_; rw [← HV2.out]))
        clear hlg thx hone g1
        have sc6 : V2.cell? ⟨sb, 0, none⟩ = some (.pointer (some ⟨g, 0, none⟩)) := by simpa using (HKE.out _ st6.k.1).1.cell 0
        have hnum2 : ∀ w1 gp, Nw V2 w1 → V2.heap.size ≤ gp → Sl w1 (· = gp) (some ⟨gp, 0, none⟩) [ptrV X 16, ptrV X 17] → Calls Tryz.prog 165 #[.agg #[.pointer (some ⟨g, 0, none⟩)], .slice (some ⟨gp, 0, none⟩) 2 2] w1 fun e w' => e = .returned (.tuple #[]) ∧ RSt true w w' F g X 50 (fun w => KK w ∧ K2 w) s6 #[U8V a0, I64 a1, I64 a2, I64 a3, I64 a4, I64 a5, I64 a6, I64 a7, .bool ok, .slice cur.a cur.l.length cur.c, I64 y.index, I64 y.term, .slice y.cfg.v.a y.cfg.v.l.length y.cfg.v.c, .slice y.cfg.o.a y.cfg.o.l.length y.cfg.o.c, .slice y.cfg.l.a y.cfg.l.l.length y.cfg.l.c, .slice y.cfg.w.a y.cfg.w.l.length y.cfg.w.c, I64 b0, I64 b1, I64 0, .slice none 0 0] := by
          intro w1 gp q1 hgp hsl
          have st6' := st6.nw q1
          have hXl := st6.x.lt
          refine (lnumbersR_any w1 F g s5 st6'.rd X 50 _ st6'.x st6'.gX st6'.FX [16, 17] (fun o ho => by show o < 20; simp at ho; omega) (· = gp) (some ⟨gp, 0, none⟩) 2 hsl (fun k hk => by omega) (by simp)).mono ?_
          rintro e w' ⟨rfl, r1, r2, r3⟩
          rw [show [16, 17].length = 2 from rfl, Q6.out] at r1 r2
          exact ⟨rfl, st6'.both r3 r1 r2⟩
        have HN2 := Lib.hid hnum2
        clear hnum2 st6
        go_upto_region 16 with (go_at_call 165; refine (HN2.out _ V2.heap.size ((Fr.refl (fun _ => False) V2).alloc _) (Nat.le_refl _) ((Blk.new V2 _ _).sl 0 2)).mono ?_; rintro e w5 ⟨rfl, st7⟩; have sc7 : w5.cell? ⟨sb, 0, none⟩ = some (.pointer (some ⟨g, 0, none⟩)) := (by simpa using (HKE.out _ st7.k.1).1.cell 0))
        go_upto_region 17 with (go_at_call 96; refine (N7.out _ st7.rd).mono ?_; rintro e w6 ⟨rfl, h6⟩; have su8 := st7.callP h6; have c8 : w6.cell? ⟨X, 18, none⟩ = some (I64 0) := (by simpa using su8.x.cell 18); have f8 := su8.x.frozen 18)
        obtain ⟨W8, hW8⟩ : ∃ W, W = w6.setCell ⟨X, 18, none⟩ (I64 tg) := ⟨_, rfl⟩
        have st8 : RSt true w W8 F g X 50 (fun w => KK w ∧ K2 w) s7 #[U8V a0, I64 a1, I64 a2, I64 a3, I64 a4, I64 a5, I64 a6, I64 a7, .bool ok, .slice cur.a cur.l.length cur.c, I64 y.index, I64 y.term, .slice y.cfg.v.a y.cfg.v.l.length y.cfg.v.c, .slice y.cfg.o.a y.cfg.o.l.length y.cfg.o.c, .slice y.cfg.l.a y.cfg.l.l.length y.cfg.l.c, .slice y.cfg.w.a y.cfg.w.l.length y.cfg.w.c, I64 b0, I64 b1, I64 tg, .slice none 0 0] := by rw [hW8]; exact su8.set_ 18 (I64 tg)
        have HW8 := Lib.hid hW8
        rw [← HW8.out]
        have sc8 : W8.cell? ⟨sb, 0, none⟩ = some (.pointer (some ⟨g, 0, none⟩)) := by simpa using (HKE.out _ st8.k.1).1.cell 0
        clear hW8 su8 c8 f8 st7 sc7 sc6
        go_upto_region 18 with (go_at_call 169; refine (N8.out _ st8.rd).mono ?_; rintro e w7 ⟨A8, cp8, rfl, o8, h8, n8⟩; have su9 := st8.callP h8; have c9 : w7.cell? ⟨X, 19, none⟩ = some (.slice none 0 0) := (by simpa using su9.x.cell 19); have f9 := su9.x.frozen 19)
        obtain ⟨W9, hW9⟩ : ∃ W, W = w7.setCell ⟨X, 19, none⟩ (.slice A8 by_.length cp8) := ⟨_, rfl⟩
        have m9 : Fr (· = X) w7 W9 := by rw [hW9]; exact (Fr.refl (· = X) _).set1 _ _
        have st9 : RSt true w W9 F g X 50 (fun w => KK w ∧ K2 w) s8 #[U8V a0, I64 a1, I64 a2, I64 a3, I64 a4, I64 a5, I64 a6, I64 a7, .bool ok, .slice cur.a cur.l.length cur.c, I64 y.index, I64 y.term, .slice y.cfg.v.a y.cfg.v.l.length y.cfg.v.c, .slice y.cfg.o.a y.cfg.o.l.length y.cfg.o.c, .slice y.cfg.l.a y.cfg.l.l.length y.cfg.l.c, .slice y.cfg.w.a y.cfg.w.l.length y.cfg.w.c, I64 b0, I64 b1, I64 tg, .slice A8 by_.length cp8] := by rw [hW9]; exact su9.set_ 19 (.slice A8 by_.length cp8)
        have hRl8 : R < W8.heap.size := (HKE.out _ st8.k.1).2.1.lt
        have hXl8 : X < W8.heap.size := st8.x.lt
        have ob : LsOwn W8 W9 5 1 bytesC ⟨A8, cp8, by_⟩ := ⟨o8.fr m9 (fun j hj e => by have := n8 j hj; omega), n8⟩
        have hws8 : w.heap.size ≤ W8.heap.size := st8.fr.size
        have hK9 := st9.k.2
        rw [HK2.out] at hK9
        obtain ⟨k1, k2, k3, k4⟩ := hK9
        obtain ⟨Y, hY⟩ : ∃ Y : LetM, Y = ⟨a0, a1, a2, a3, a4, a5, a6, a7, ok, cur, y, b0, b1, tg, ⟨A8, cp8, by_⟩⟩ := ⟨_, rfl⟩
        have hYI : LetIn W9 (fun j => w.heap.size ≤ j ∧ j ≠ R) Y := by
          rw [hY]
          refine ⟨by show 0 ≤ a0 ∧ a0 ≤ 255; have := H256.out; omega, k1.in_.mono (fun j hj _ => ?_), fun e he => (k2.each e he).mono (fun j hj _ => ?_), k3.in_.mono (fun j hj _ => ?_), ob.in_.mono (fun j hj _ => ?_)⟩
          · unfold Since at hj; omega
          · have := hj.1; omega
          · unfold Since at hj; omega
          · unfold Since at hj; omega
        have hw8 : wr.heap.size ≤ W8.heap.size := by have h := st8.k.2; rw [HK2.out] at h; exact h.2.2.2
        have hYH : LetHd W9 (fun j => w.heap.size ≤ j ∧ j ≠ R) Y := by
          rw [hY] at hYI ⊢
          refine LetHd.make (fun j => w3.heap.size ≤ j ∧ j < wr.heap.size) (Since wr) (Since W8) hYI.kind k2 (k1.hd.mono fun j hj _ => ?_) hYI.cfg k3.hd ob.hd (fun j h1 h2 => ?_) (fun j h1 h2 => ?_) (fun j hj _ => ?_) (fun j hj _ => ?_) (fun j hj _ => ?_)
          · unfold Since at hj; omega
          · unfold Since at h2; omega
          · unfold Since at h2; omega
          · omega
          · unfold Since at hj; omega
          · unfold Since at hj; omega
        have hYZ : LetSz Y := by
          rw [hY]
          exact ⟨by show cur.l.length ≤ _; omega, HZ.out, HZC.out, by show by_.length ≤ _; have := M8.out; omega⟩
        have hYx : Y.x = ⟨a0, a1, a2, a3, a4, a5, a6, a7, ok, es, bs, b0, b1, tg, by_⟩ := by
          rw [hY]
          show (⟨a0, a1, a2, a3, a4, a5, a6, a7, ok, cur.l.map EntM.x, y.x, b0, b1, tg, by_⟩ : LetF) = _
          rw [HM.out, HEY.out]
        obtain ⟨lk, hlk⟩ : ∃ lk, letOk ⟨a0, a1, a2, a3, a4, a5, a6, a7, ok, es, bs, b0, b1, tg, by_⟩ = lk := ⟨_, rfl⟩
        have hYL : [U8V a0, I64 a1, I64 a2, I64 a3, I64 a4, I64 a5, I64 a6, I64 a7, .bool ok, .slice cur.a cur.l.length cur.c, I64 y.index, I64 y.term, .slice y.cfg.v.a y.cfg.v.l.length y.cfg.v.c, .slice y.cfg.o.a y.cfg.o.l.length y.cfg.o.c, .slice y.cfg.l.a y.cfg.l.l.length y.cfg.l.c, .slice y.cfg.w.a y.cfg.w.l.length y.cfg.w.c, I64 b0, I64 b1, I64 tg, .slice A8 by_.length cp8] = letL Y := by rw [hY]
        have hYA : #[U8V a0, I64 a1, I64 a2, I64 a3, I64 a4, I64 a5, I64 a6, I64 a7, .bool ok, .slice cur.a cur.l.length cur.c, I64 y.index, I64 y.term, .slice y.cfg.v.a y.cfg.v.l.length y.cfg.v.c, .slice y.cfg.o.a y.cfg.o.l.length y.cfg.o.c, .slice y.cfg.l.a y.cfg.l.l.length y.cfg.l.c, .slice y.cfg.w.a y.cfg.w.l.length y.cfg.w.c, I64 b0, I64 b1, I64 tg, .slice A8 by_.length cp8] = letA Y := by rw [hY]
        have hright : ∀ w1 gp, Nw W9 w1 → Sl w1 (· = gp) (some ⟨gp, 0, none⟩) [U8V a0, I64 a1, I64 a2, I64 a3, I64 a4, I64 a5, I64 a6, I64 a7, .bool ok, .slice cur.a cur.l.length cur.c, I64 y.index, I64 y.term, .slice y.cfg.v.a y.cfg.v.l.length y.cfg.v.c, .slice y.cfg.o.a y.cfg.o.l.length y.cfg.o.c, .slice y.cfg.l.a y.cfg.l.l.length y.cfg.l.c, .slice y.cfg.w.a y.cfg.w.l.length y.cfg.w.c, I64 b0, I64 b1, I64 tg, .slice A8 by_.length cp8] → Calls Tryz.prog 35 #[.slice (some ⟨gp, 0, none⟩) 1 1] w1 fun e w' => e = .returned (.bool lk) ∧ Nw w1 w' := by
          intro w1 gp q1 hsl
          rw [hYL, ← letsC_one] at hsl
          have c := lRight_any w1 (fun _ => True) (some ⟨gp, 0, none⟩) 1 [Y] (hsl.mono fun _ _ _ => trivial) (fun x hx => by rw [List.mem_singleton.1 hx]; exact (hYI.nw q1).mono fun _ _ _ => trivial) (fun x hx => by rw [List.mem_singleton.1 hx]; exact hYZ) (by simp)
          have e : letsOk ([Y].map LetM.x) = lk := by
            rw [← hlk, ← hYx]
            simp [letsOk]
          rw [e] at c
          exact c
        have lx := Blk.cells_at (l := [U8V a0, I64 a1, I64 a2, I64 a3, I64 a4, I64 a5, I64 a6, I64 a7, .bool ok, .slice cur.a cur.l.length cur.c, I64 y.index, I64 y.term, .slice y.cfg.v.a y.cfg.v.l.length y.cfg.v.c, .slice y.cfg.o.a y.cfg.o.l.length y.cfg.o.c, .slice y.cfg.l.a y.cfg.l.l.length y.cfg.l.c, .slice y.cfg.w.a y.cfg.w.l.length y.cfg.w.c, I64 b0, I64 b1, I64 tg, .slice A8 by_.length cp8]) st9.x 0
        have HRG := Lib.hid hright
        have HYI := Lib.hid hYI
        have HYH := Lib.hid hYH
        have HYZ := Lib.hid hYZ
        have HYX := Lib.hid hYx
        have HLK := Lib.hid hlk
        have HYL := Lib.hid hYL
        have HYA := Lib.hid hYA
        have HW9 := Lib.hid hW9
        rw [← HW9.out]
        clear hright hYI hYH hw8 hYZ hYx hlk hYL hYA hW9 hY ob k1 k2 k3 o8 m9 su9 c9 f9 st8 sc8 h8 n8
        go_wp2_with (refine wl_load_cells rfl 50 _ rfl X 0 rfl [U8V a0, I64 a1, I64 a2, I64 a3, I64 a4, I64 a5, I64 a6, I64 a7, .bool ok, .slice cur.a cur.l.length cur.c, I64 y.index, I64 y.term, .slice y.cfg.v.a y.cfg.v.l.length y.cfg.v.c, .slice y.cfg.o.a y.cfg.o.l.length y.cfg.o.c, .slice y.cfg.l.a y.cfg.l.l.length y.cfg.l.c, .slice y.cfg.w.a y.cfg.w.l.length y.cfg.w.c, I64 b0, I64 b1, I64 tg, .slice A8 by_.length cp8] _ lx Tryz.underlying50 rfl (by kernel_rfl) ?_)
        refine (HRG.out _ W9.heap.size ((Fr.refl (fun _ => False) W9).alloc _) (sl_new W9 50 [U8V a0, I64 a1, I64 a2, I64 a3, I64 a4, I64 a5, I64 a6, I64 a7, .bool ok, .slice cur.a cur.l.length cur.c, I64 y.index, I64 y.term, .slice y.cfg.v.a y.cfg.v.l.length y.cfg.v.c, .slice y.cfg.o.a y.cfg.o.l.length y.cfg.o.c, .slice y.cfg.l.a y.cfg.l.l.length y.cfg.l.c, .slice y.cfg.w.a y.cfg.w.l.length y.cfg.w.c, I64 b0, I64 b1, I64 tg, .slice A8 by_.length cp8] _ rfl)).mono ?_
        rintro e v9 ⟨rfl, q9⟩
        have q90 : Nw W9 v9 := ((Fr.refl (fun _ => False) W9).alloc _).tr q9
        have st10 := st9.nw q90
        cases lk with
        | false =>
          have hpn : p = none := by rw [← HP.out]; exact if_neg (fun hh => by rw [HLK.out] at hh; exact absurd hh.2.2.2 (by simp))
          have HPN := Lib.hid hpn
          clear hpn
          go_wp2_with fail
          refine (lmust_no _).mono ?_
          rintro e w10 ⟨rfl, rfl⟩
          refine ⟨rfl, ?_⟩
          rw [HPN.out]
          exact ⟨st10.fr, rfl⟩
        | true =>
          have hps : p = some (⟨a0, a1, a2, a3, a4, a5, a6, a7, ok, es, bs, b0, b1, tg, by_⟩, s8) := by rw [← HP.out]; exact if_pos ⟨H256.out, trivial, trivial, HLK.out⟩
          have HPS := Lib.hid hps
          have r10 := (HKE.out _ st10.k.1).2.1
          have thr := Blk.there (l := [U8V 0, I64 0, I64 0, I64 0, I64 0, I64 0, I64 0, I64 0, .bool false, .slice none 0 0, I64 0, I64 0, .slice none 0 0, .slice none 0 0, .slice none 0 0, .slice none 0 0, I64 0, I64 0, I64 0, .slice none 0 0]) r10 0 20 (by show 0 + 20 ≤ 20; omega)
          have oner : #[U8V a0, I64 a1, I64 a2, I64 a3, I64 a4, I64 a5, I64 a6, I64 a7, .bool ok, .slice cur.a cur.l.length cur.c, I64 y.index, I64 y.term, .slice y.cfg.v.a y.cfg.v.l.length y.cfg.v.c, .slice y.cfg.o.a y.cfg.o.l.length y.cfg.o.c, .slice y.cfg.l.a y.cfg.l.l.length y.cfg.l.c, .slice y.cfg.w.a y.cfg.w.l.length y.cfg.w.c, I64 b0, I64 b1, I64 tg, .slice A8 by_.length cp8].all (·.oneCell') = true := by rw [HYA.out]; exact letA_one Y
          have lx10 := Blk.cells_at (l := [U8V a0, I64 a1, I64 a2, I64 a3, I64 a4, I64 a5, I64 a6, I64 a7, .bool ok, .slice cur.a cur.l.length cur.c, I64 y.index, I64 y.term, .slice y.cfg.v.a y.cfg.v.l.length y.cfg.v.c, .slice y.cfg.o.a y.cfg.o.l.length y.cfg.o.c, .slice y.cfg.l.a y.cfg.l.l.length y.cfg.l.c, .slice y.cfg.w.a y.cfg.w.l.length y.cfg.w.c, I64 b0, I64 b1, I64 tg, .slice A8 by_.length cp8]) st10.x 0
          obtain ⟨v10, hv10⟩ : ∃ W, W = v9.setCells R 0 [U8V a0, I64 a1, I64 a2, I64 a3, I64 a4, I64 a5, I64 a6, I64 a7, .bool ok, .slice cur.a cur.l.length cur.c, I64 y.index, I64 y.term, .slice y.cfg.v.a y.cfg.v.l.length y.cfg.v.c, .slice y.cfg.o.a y.cfg.o.l.length y.cfg.o.c, .slice y.cfg.l.a y.cfg.l.l.length y.cfg.l.c, .slice y.cfg.w.a y.cfg.w.l.length y.cfg.w.c, I64 b0, I64 b1, I64 tg, .slice A8 by_.length cp8] := ⟨_, rfl⟩
          have m10 : Fr (· = R) v9 v10 := by rw [hv10]; exact (Fr.refl (· = R) _).setCells _ _
          have rr : Blk v10 R 50 #[U8V a0, I64 a1, I64 a2, I64 a3, I64 a4, I64 a5, I64 a6, I64 a7, .bool ok, .slice cur.a cur.l.length cur.c, I64 y.index, I64 y.term, .slice y.cfg.v.a y.cfg.v.l.length y.cfg.v.c, .slice y.cfg.o.a y.cfg.o.l.length y.cfg.o.c, .slice y.cfg.l.a y.cfg.l.l.length y.cfg.l.c, .slice y.cfg.w.a y.cfg.w.l.length y.cfg.w.c, I64 b0, I64 b1, I64 tg, .slice A8 by_.length cp8] := by rw [hv10]; exact Blk.setCells (l := [U8V 0, I64 0, I64 0, I64 0, I64 0, I64 0, I64 0, I64 0, .bool false, .slice none 0 0, I64 0, I64 0, .slice none 0 0, .slice none 0 0, .slice none 0 0, .slice none 0 0, I64 0, I64 0, I64 0, .slice none 0 0]) r10 0 [U8V a0, I64 a1, I64 a2, I64 a3, I64 a4, I64 a5, I64 a6, I64 a7, .bool ok, .slice cur.a cur.l.length cur.c, I64 y.index, I64 y.term, .slice y.cfg.v.a y.cfg.v.l.length y.cfg.v.c, .slice y.cfg.o.a y.cfg.o.l.length y.cfg.o.c, .slice y.cfg.l.a y.cfg.l.l.length y.cfg.l.c, .slice y.cfg.w.a y.cfg.w.l.length y.cfg.w.c, I64 b0, I64 b1, I64 tg, .slice A8 by_.length cp8]
          have res : LetRd w F g p (.returned (.agg #[U8V a0, I64 a1, I64 a2, I64 a3, I64 a4, I64 a5, I64 a6, I64 a7, .bool ok, .slice cur.a cur.l.length cur.c, I64 y.index, I64 y.term, .slice y.cfg.v.a y.cfg.v.l.length y.cfg.v.c, .slice y.cfg.o.a y.cfg.o.l.length y.cfg.o.c, .slice y.cfg.l.a y.cfg.l.l.length y.cfg.l.c, .slice y.cfg.w.a y.cfg.w.l.length y.cfg.w.c, I64 b0, I64 b1, I64 tg, .slice A8 by_.length cp8])) v10 := by
            rw [hps]
            refine ⟨st10.fr.trans m10 (fun j hj => .inr (by omega)), Y, by rw [HYA.out], HYX.out, ((HYH.out.nw q90).fr m10 (fun j hj e => hj.2 e)).mono (fun j hj _ => hj.1), HYZ.out, st10.rd.fr m10 (fun e => by omega) (fun j hj e => ?_)⟩
            have := (HFK.out j hj).2.1
            omega
          have HV10 := Lib.hid hv10
          have HRES := Lib.hid res
          clear hps res hv10 m10 st10 st9 lx q90
          go_upto_region 19 with (go_at_call 97; refine (lmust_yes _).mono ?_; rintro e w10 ⟨rfl, rfl⟩)
          go_wp2_with (first | (refine wl_load_cells rfl 50 _ rfl X 0 rfl [U8V a0, I64 a1, I64 a2, I64 a3, I64 a4, I64 a5, I64 a6, I64 a7, .bool ok, .slice cur.a cur.l.length cur.c, I64 y.index, I64 y.term, .slice y.cfg.v.a y.cfg.v.l.length y.cfg.v.c, .slice y.cfg.o.a y.cfg.o.l.length y.cfg.o.c, .slice y.cfg.l.a y.cfg.l.l.length y.cfg.l.c, .slice y.cfg.w.a y.cfg.w.l.length y.cfg.w.c, I64 b0, I64 b1, I64 tg, .slice A8 by_.length cp8] _ lx10 Tryz.underlying50 rfl (by kernel_rfl) ?_) | (refine wpList_store_mid rfl 50 _ _ rfl R 0 #[U8V a0, I64 a1, I64 a2, I64 a3, I64 a4, I64 a5, I64 a6, I64 a7, .bool ok, .slice cur.a cur.l.length cur.c, I64 y.index, I64 y.term, .slice y.cfg.v.a y.cfg.v.l.length y.cfg.v.c, .slice y.cfg.o.a y.cfg.o.l.length y.cfg.o.c, .slice y.cfg.l.a y.cfg.l.l.length y.cfg.l.c, .slice y.cfg.w.a y.cfg.w.l.length y.cfg.w.c, I64 b0, I64 b1, I64 tg, .slice A8 by_.length cp8] rfl rfl thr (by kernel_rfl) oner ?_; rw [← HV10.out]))
          refine bodyPost_ret (v := .agg #[U8V a0, I64 a1, I64 a2, I64 a3, I64 a4, I64 a5, I64 a6, I64 a7, .bool ok, .slice cur.a cur.l.length cur.c, I64 y.index, I64 y.term, .slice y.cfg.v.a y.cfg.v.l.length y.cfg.v.c, .slice y.cfg.o.a y.cfg.o.l.length y.cfg.o.c, .slice y.cfg.l.a y.cfg.l.l.length y.cfg.l.c, .slice y.cfg.w.a y.cfg.w.l.length y.cfg.w.c, I64 b0, I64 b1, I64 tg, .slice A8 by_.length cp8]) ?_ rfl ?_
          · exact results_cell_row rfl _ _ R 50 _ (0, 0) _ rfl rr Tryz.underlying50 rfl (by kernel_rfl)
          exact HRES.out
end Go.Proofs.YtippdjaakcgeoaaGreat
