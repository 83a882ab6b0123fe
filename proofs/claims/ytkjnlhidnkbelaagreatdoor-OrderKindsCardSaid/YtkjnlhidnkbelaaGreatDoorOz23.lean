/- Lemmas of the walks: OjA. (Laid together by shake.py.) -/
import Derived.Test.YtkjnlhidnkbelaaGreatDoorOz03
import Derived.Test.YtkjnlhidnkbelaaGreatDoorOz11
import Derived.Test.YtkjnlhidnkbelaaGreatDoorOz12
import Derived.Test.YtkjnlhidnkbelaaGreatDoorOz15
import Derived.Test.YtkjnlhidnkbelaaGreatDoorOz18
import Derived.Test.YtkjnlhidnkbelaaGreatDoorOz20
import Derived.Test.YtkjnlhidnkbelaaGreatDoorOz22
set_option linter.unusedVariables false
set_option linter.unusedSimpArgs false
namespace Go.Proofs.YtkjnlhidnkbelaaGreatDoor
open Go Go.RowKit
set_option linter.unusedVariables false
set_option linter.unusedSimpArgs false
def ordOr (r : Option OrdF) : OrdF := r.getD (ordZ 0)
def ansOr (r : Option AnsF) : AnsF := r.getD ansZ
def erOr {α : Type} (r : Option α) : Int := match r with
  | none => 4
  | some _ => 0
theorem OrdOwn.zero (w w' : World) : OrdOwn w w' (ordZ 0) plZ := ⟨Own.nil _ _ _, Own.nil _ _ _, Own.nil _ _ _, fun k h => (inA_none k h).elim, fun k h => (inA_none k h).elim, fun k h => (inA_none k h).elim⟩
theorem AnsOwn.zero (w w' : World) : AnsOwn w w' ansZ plZ := ⟨Own.nil _ _ _, Own.nil _ _ _, fun k h => (inA_none k h).elim, fun k h => (inA_none k h).elim⟩
theorem oget2 (w : World) (F : Nat → Prop) (A : Option Addr) (c : Nat) (bs : List UInt8) (hs : Sl w F A (bs.map B8)) (hsz : bs.length ≤ 1000000000) :
    Calls Tryz.prog 16 #[.slice A bs.length c] w fun e w' => ∃ p, e = .returned (.tuple #[.agg (ofA (U8V (ordOr (ordGet bs)).kind) (ordOr (ordGet bs)) p), .int .i64 (erOr (ordGet bs))]) ∧ OrdOwn w w' (ordOr (ordGet bs)) p ∧ Nw w w' := by
  refine (oget_any w F A c bs hs hsz).mono fun e w' h => ?_
  generalize ordGet bs = r at h ⊢
  cases r with
  | none => exact ⟨plZ, h.2, OrdOwn.zero _ _, h.1⟩
  | some x => obtain ⟨h1, p, h2, h3⟩ := h; exact ⟨p, h2, h3, h1⟩
theorem ogetAns2 (w : World) (F : Nat → Prop) (A : Option Addr) (c : Nat) (bs : List UInt8) (hs : Sl w F A (bs.map B8)) (hsz : bs.length ≤ 1000000000) :
    Calls Tryz.prog 20 #[.slice A bs.length c] w fun e w' => ∃ p, e = .returned (.tuple #[.agg (afA (ansOr (ansGet bs)) p), .int .i64 (erOr (ansGet bs))]) ∧ AnsOwn w w' (ansOr (ansGet bs)) p ∧ Nw w w' := by
  refine (ogetAns_any w F A c bs hs hsz).mono fun e w' h => ?_
  generalize ansGet bs = r at h ⊢
  cases r with
  | none => exact ⟨plZ, h.2, AnsOwn.zero _ _, h.1⟩
  | some x => obtain ⟨h1, p, h2, h3⟩ := h; exact ⟨p, h2, h3, h1⟩
theorem xget2 (w : World) (F0 : Nat → Prop) (A : Option Addr) (c : Nat) (bs : List UInt8) (hs : Sl w F0 A (bs.map B8)) (hFl : ∀ k, F0 k → k < w.heap.size) (hc1 : bs.length ≤ c) (hc2 : c ≤ maxLen) (hsz : bs.length ≤ 1000000000) :
    Calls Tryz.prog 35 #[.slice A bs.length c] w fun e w' => ∃ p, e = .returned (.tuple #[.agg (ofA (I64 (ordOr (ordGet bs)).kind) (ordOr (ordGet bs)) p), .int .i64 (erOr (ordGet bs))]) ∧ OrdOwn w w' (ordOr (ordGet bs)) p ∧ Nw w w' := by
  refine (xget_any w F0 A c bs hs hFl hc1 hc2 hsz).mono fun e w' h => ?_
  generalize ordGet bs = r at h ⊢
  cases r with
  | none => exact ⟨plZ, h.2, OrdOwn.zero _ _, h.1⟩
  | some x => obtain ⟨h1, p, h2, h3⟩ := h; exact ⟨p, h2, h3, h1⟩
theorem xgetAns2 (w : World) (F0 : Nat → Prop) (A : Option Addr) (c : Nat) (bs : List UInt8) (hs : Sl w F0 A (bs.map B8)) (hFl : ∀ k, F0 k → k < w.heap.size) (hc1 : bs.length ≤ c) (hc2 : c ≤ maxLen) (hsz : bs.length ≤ 1000000000) :
    Calls Tryz.prog 36 #[.slice A bs.length c] w fun e w' => ∃ p, e = .returned (.tuple #[.agg (afA (ansOr (ansGet bs)) p), .int .i64 (erOr (ansGet bs))]) ∧ AnsOwn w w' (ansOr (ansGet bs)) p ∧ Nw w w' := by
  refine (xgetAns_any w F0 A c bs hs hFl hc1 hc2 hsz).mono fun e w' h => ?_
  generalize ansGet bs = r at h ⊢
  cases r with
  | none => exact ⟨plZ, h.2, AnsOwn.zero _ _, h.1⟩
  | some x => obtain ⟨h1, p, h2, h3⟩ := h; exact ⟨p, h2, h3, h1⟩
theorem ordOr_sz (bs : List UInt8) : OrdSz (ordOr (ordGet bs)) := by
  cases h : ordGet bs with
  | none => exact zero_sz 0 (by decide)
  | some x => exact OrdSz.small (ordOk_sm (ordGet_inv h).1)
theorem ansOr_sz (bs : List UInt8) : AnsSz (ansOr (ansGet bs)) := by
  cases h : ansGet bs with
  | none => exact ⟨⟨Nat.zero_le _, fun a h => by cases h⟩, Nat.zero_le _⟩
  | some x =>
    have hs := ansOk_sm (ansGet_inv h).1
    refine ⟨⟨by have := hs.reads.1; show x.reads.length ≤ _; omega, fun a ha => ?_⟩, by have := hs.bytes; show x.bytes.length ≤ _; omega⟩
    obtain ⟨h1, h2⟩ := rdgOk_len (hs.reads.2 a ha)
    exact ⟨by omega, by omega⟩
set_option maxRecDepth 100000 in
set_option maxHeartbeats 16000000 in
theorem gets_walk (w : World) (A : Option Addr) (c : Nat) (bs : List UInt8) (hs : Sl w (· < w.heap.size) A (bs.map B8)) (hc1 : bs.length ≤ c) (hc2 : c ≤ maxLen) :
    Calls Tryz.prog 7 #[.slice A bs.length c] w fun e w' => e = .returned (.bool true) ∧ Nw w w' := by
  have haw := fun w => awake22_any w
  obtain ⟨n, hn⟩ : ∃ n, bs.length = n := ⟨_, rfl⟩
  have hlb := fun h => lent_u8 w _ A c bs hs h
  have g2 := fun w' gb (h : bs.length ≤ 1000000000) (f : Lent w' (some ⟨gb, 0, none⟩) bs) => oget2 w' _ _ (bs.length + 12) bs (Lent.row f) h
  have g5 := fun w' gb (h : bs.length ≤ 1000000000) (f : Lent w' (some ⟨gb, 0, none⟩) bs) => ogetAns2 w' _ _ (bs.length + 12) bs (Lent.row f) h
  have g3 := fun w' (h : bs.length ≤ 1000000000) (f : Nw w w') => xget2 w' (· < w.heap.size) A c bs (hs.fr f (fun _ _ h => h)) (fun k hk => Nat.lt_of_lt_of_le hk f.size) hc1 hc2 h
  have g6 := fun w' (h : bs.length ≤ 1000000000) (f : Nw w w') => xgetAns2 w' (· < w.heap.size) A c bs (hs.fr f (fun _ _ h => h)) (fun k hk => Nat.lt_of_lt_of_le hk f.size) hc1 hc2 h
  have kp := fun w' gb (h : bs.length ≤ 1000000000000) (f : Lent w' (some ⟨gb, 0, none⟩) bs) (hs' : Sl w' (· < w.heap.size) A (bs.map B8)) => (kept_u8 w' _ (some ⟨gb, 0, none⟩) A c bs f hs' h)
  have hzx := ordOr_sz bs
  have hzy := ansOr_sz bs
  obtain ⟨x, hx⟩ : ∃ x, ordOr (ordGet bs) = x := ⟨_, rfl⟩
  obtain ⟨y, hy⟩ : ∃ y, ansOr (ansGet bs) = y := ⟨_, rfl⟩
  obtain ⟨ex, hex⟩ : ∃ e, erOr (ordGet bs) = e := ⟨_, rfl⟩
  obtain ⟨ey, hey⟩ : ∃ e, erOr (ansGet bs) = e := ⟨_, rfl⟩
  simp only [hx, hy, hex, hey, hn] at g2 g3 g5 g6 kp hlb hzx hzy ⊢
  rw [hn] at hc1
  have hkx := hzx.kind
  have G2 := Lib.hid g2
  have G3 := Lib.hid g3
  have G5 := Lib.hid g5
  have G6 := Lib.hid g6
  have KP := Lib.hid kp
  clear hx hy hex hey g2 g3 g5 g6 kp hn
  by_cases h5 : n ≤ 5000
  · have h5i : ¬ (5000 : Int) < (n : Int) := by omega
    have h5d : decide ((5000 : Int) < (n : Int)) = false := decide_eq_false h5i
    have hlb := hlb (by omega)
    go_enter Tryz.func7, Tryz.ntmps7
    go_upto_region 4 with (go_at_call 26; refine hlb.mono ?_; rintro e V1 ⟨gb, rfl, lb1, q1, hgb1⟩)
    have Q1 := q1
    have HGB : gb < V1.heap.size := Own.lt lb1 _ ((inA_some _ _).2 rfl)
    go_upto_region 5 with (go_at_call 16; refine (G2.out _ gb (by omega) lb1).mono ?_; rintro e w2 ⟨p2, rfl, o2, q2⟩)
    obtain ⟨X2, hX2⟩ : ∃ X, X = w2.heap.size := ⟨_, rfl⟩
    obtain ⟨V2, hV2⟩ : ∃ V, V = w2.alloc (.cells (ofA (U8V x.kind) x p2) 31) := ⟨_, rfl⟩
    have qv2 : Nw w2 V2 := by rw [hV2]; exact (Fr.refl (fun _ => False) _).alloc _
    have b2 : Blk V2 X2 31 (ofA (U8V x.kind) x p2) := by rw [hV2, hX2]; exact Blk.new _ _ _
    have u2 : Nw V1 V2 := q2.tr qv2
    have lb2 := Lent.fr lb1 u2 (fun _ _ h => h)
    have Q2 := Q1.tr u2
    have y2 : X2 < V2.heap.size := b2.lt
    have HX2 := Lib.hid hX2
    have HV2 := Lib.hid hV2
    rw [← HX2.out, ← HV2.out]
    have o2' := o2.fr qv2 (fun _ _ h => h) (fun _ _ h => h) (fun _ _ h => h)
    clear hX2 hV2
    go_upto_region 6 with (go_at_call 35; refine (G3.out _ (by omega) Q2).mono ?_; rintro e w3 ⟨p3, rfl, o3, q3⟩)
    obtain ⟨X3, hX3⟩ : ∃ X, X = w3.heap.size := ⟨_, rfl⟩
    obtain ⟨V3, hV3⟩ : ∃ V, V = w3.alloc (.cells (ofA (I64 x.kind) x p3) 55) := ⟨_, rfl⟩
    have qv3 : Nw w3 V3 := by rw [hV3]; exact (Fr.refl (fun _ => False) _).alloc _
    have b3 : Blk V3 X3 55 (ofA (I64 x.kind) x p3) := by rw [hV3, hX3]; exact Blk.new _ _ _
    have u3 : Nw V2 V3 := q3.tr qv3
    have lb3 := Lent.fr lb2 u3 (fun _ _ h => h)
    have Q3 := Q2.tr u3
    have y3 : X3 < V3.heap.size := b3.lt
    have HX3 := Lib.hid hX3
    have HV3 := Lib.hid hV3
    rw [← HX3.out, ← HV3.out]
    have o3' := o3.fr qv3 (fun _ _ h => h) (fun _ _ h => h) (fun _ _ h => h)
    clear hX3 hV3 lb2 o3
    go_upto_region 7 with (go_at_call 16; refine (G2.out _ gb (by omega) lb3).mono ?_; rintro e w4 ⟨p4, rfl, o4, q4⟩)
    obtain ⟨X4, hX4⟩ : ∃ X, X = w4.heap.size := ⟨_, rfl⟩
    obtain ⟨V4, hV4⟩ : ∃ V, V = w4.alloc (.cells (ofA (U8V x.kind) x p4) 31) := ⟨_, rfl⟩
    have qv4 : Nw w4 V4 := by rw [hV4]; exact (Fr.refl (fun _ => False) _).alloc _
    have b4 : Blk V4 X4 31 (ofA (U8V x.kind) x p4) := by rw [hV4, hX4]; exact Blk.new _ _ _
    have u4 : Nw V3 V4 := q4.tr qv4
    have lb4 := Lent.fr lb3 u4 (fun _ _ h => h)
    have Q4 := Q3.tr u4
    have y4 : X4 < V4.heap.size := b4.lt
    have HX4 := Lib.hid hX4
    have HV4 := Lib.hid hV4
    rw [← HX4.out, ← HV4.out]
    have o4' := o4.fr qv4 (fun _ _ h => h) (fun _ _ h => h) (fun _ _ h => h)
    clear hX4 hV4 lb3
    go_upto_region 8 with (go_at_call 20; refine (G5.out _ gb (by omega) lb4).mono ?_; rintro e w5 ⟨p5, rfl, o5, q5⟩)
    obtain ⟨X5, hX5⟩ : ∃ X, X = w5.heap.size := ⟨_, rfl⟩
    obtain ⟨V5, hV5⟩ : ∃ V, V = w5.alloc (.cells (afA y p5) 41) := ⟨_, rfl⟩
    have qv5 : Nw w5 V5 := by rw [hV5]; exact (Fr.refl (fun _ => False) _).alloc _
    have b5 : Blk V5 X5 41 (afA y p5) := by rw [hV5, hX5]; exact Blk.new _ _ _
    have u5 : Nw V4 V5 := q5.tr qv5
    have lb5 := Lent.fr lb4 u5 (fun _ _ h => h)
    have Q5 := Q4.tr u5
    have y5 : X5 < V5.heap.size := b5.lt
    have HX5 := Lib.hid hX5
    have HV5 := Lib.hid hV5
    rw [← HX5.out, ← HV5.out]
    have o5' := o5.fr qv5 (fun _ _ h => h) (fun _ _ h => h)
    clear hX5 hV5 lb4
    go_upto_region 9 with (go_at_call 36; refine (G6.out _ (by omega) Q5).mono ?_; rintro e w6 ⟨p6, rfl, o6, q6⟩)
    obtain ⟨X6, hX6⟩ : ∃ X, X = w6.heap.size := ⟨_, rfl⟩
    obtain ⟨V6, hV6⟩ : ∃ V, V = w6.alloc (.cells (afA y p6) 60) := ⟨_, rfl⟩
    have qv6 : Nw w6 V6 := by rw [hV6]; exact (Fr.refl (fun _ => False) _).alloc _
    have b6 : Blk V6 X6 60 (afA y p6) := by rw [hV6, hX6]; exact Blk.new _ _ _
    have u6 : Nw V5 V6 := q6.tr qv6
    have lb6 := Lent.fr lb5 u6 (fun _ _ h => h)
    have Q6 := Q5.tr u6
    have y6 : X6 < V6.heap.size := b6.lt
    have HX6 := Lib.hid hX6
    have HV6 := Lib.hid hV6
    rw [← HX6.out, ← HV6.out]
    have o6' := o6.fr qv6 (fun _ _ h => h) (fun _ _ h => h)
    clear hX6 hV6 lb5 o6
    go_upto_region 10 with (go_at_call 20; refine (G5.out _ gb (by omega) lb6).mono ?_; rintro e w7 ⟨p7, rfl, o7, q7⟩)
    obtain ⟨X7, hX7⟩ : ∃ X, X = w7.heap.size := ⟨_, rfl⟩
    obtain ⟨V7, hV7⟩ : ∃ V, V = w7.alloc (.cells (afA y p7) 41) := ⟨_, rfl⟩
    have qv7 : Nw w7 V7 := by rw [hV7]; exact (Fr.refl (fun _ => False) _).alloc _
    have b7 : Blk V7 X7 41 (afA y p7) := by rw [hV7, hX7]; exact Blk.new _ _ _
    have u7 : Nw V6 V7 := q7.tr qv7
    have lb7 := Lent.fr lb6 u7 (fun _ _ h => h)
    have Q7 := Q6.tr u7
    have y7 : X7 < V7.heap.size := b7.lt
    have HX7 := Lib.hid hX7
    have HV7 := Lib.hid hV7
    rw [← HX7.out, ← HV7.out]
    have o7' := o7.fr qv7 (fun _ _ h => h) (fun _ _ h => h)
    clear hX7 hV7 lb6
    have t6 := u7
    have t5 := u6.tr t6
    have t4 := u5.tr t5
    have t3 := u4.tr t4
    have t2 := u3.tr t3
    have B2 := b2.fr t2 (fun h => h)
    have O2 := o2'.fr t2 (fun _ _ h => h) (fun _ _ h => h) (fun _ _ h => h)
    have B3 := b3.fr t3 (fun h => h)
    have O3 := o3'.fr t3 (fun _ _ h => h) (fun _ _ h => h) (fun _ _ h => h)
    have B4 := b4.fr t4 (fun h => h)
    have O4 := o4'.fr t4 (fun _ _ h => h) (fun _ _ h => h) (fun _ _ h => h)
    have B5 := b5.fr t5 (fun h => h)
    have O5 := o5'.fr t5 (fun _ _ h => h) (fun _ _ h => h)
    have B6 := b6.fr t6 (fun h => h)
    have O6 := o6'.fr t6 (fun _ _ h => h) (fun _ _ h => h)
    have B7 := b7
    have O7 := o7'
    obtain ⟨S, hS0⟩ : ∃ S : Nat → Prop, S = fun k => inA p2.b k ∨ inA p4.b k ∨ inA p5.b k ∨ inA p7.b k := ⟨_, rfl⟩
    have z2 := q2.size
    have z3 := u3.size
    have z4 := q4.size
    have z5 := q5.size
    have z6 := u6.size
    have z7 := q7.size
    have zv2 := qv2.size
    have zv4 := qv4.size
    have zv5 := qv5.size
    have zv7 := qv7.size
    have r2 : ∀ k, inA p2.b k → V1.heap.size ≤ k ∧ k < w2.heap.size := fun k hk => ⟨o2'.nb k hk, o2.bytes.lt k hk⟩
    have r4 : ∀ k, inA p4.b k → V3.heap.size ≤ k ∧ k < w4.heap.size := fun k hk => ⟨o4'.nb k hk, o4.bytes.lt k hk⟩
    have r5 : ∀ k, inA p5.b k → V4.heap.size ≤ k ∧ k < w5.heap.size := fun k hk => ⟨o5'.nb k hk, o5.bytes.lt k hk⟩
    have r7 : ∀ k, inA p7.b k → V6.heap.size ≤ k ∧ k < w7.heap.size := fun k hk => ⟨o7'.nb k hk, o7.bytes.lt k hk⟩
    have hSlt : ∀ k, S k → V1.heap.size ≤ k ∧ k < V7.heap.size ∧ k ≠ X2 ∧ k ≠ X3 ∧ k ≠ X4 ∧ k ≠ X5 ∧ k ≠ X6 ∧ k ≠ X7 ∧ k ≠ gb := fun k hk => by
      have a2 := HX2.out
      have a3 := HX3.out
      have a4 := HX4.out
      have a5 := HX5.out
      have a6 := HX6.out
      have a7 := HX7.out
      have ag : gb < V1.heap.size := HGB
      have a3' := q3.size
      have a6' := q6.size
      have a33 := qv3.size
      have a66 := qv6.size
      rw [hS0] at hk
      rcases hk with h | h | h | h
      · have := r2 k h; omega
      · have := r4 k h; omega
      · have := r5 k h; omega
      · have := r7 k h; omega
    have hS : ∀ wz, Fr S V7 wz → wz.cell? ⟨X2, 0, none⟩ = some (U8V x.kind) ∧ wz.cell? ⟨X2, 1, none⟩ = some (I64 x.nm.1) ∧ wz.cell? ⟨X2, 2, none⟩ = some (I64 x.nm.2) ∧ wz.cell? ⟨X2, 3, none⟩ = some (I64 x.epoch) ∧ wz.cell? ⟨X2, 4, none⟩ = some (.slice p2.a x.acts.length p2.ca) ∧ wz.cell? ⟨X2, 5, none⟩ = some (.bool x.commit) ∧ wz.cell? ⟨X2, 6, none⟩ = some (.slice p2.r x.reads.length p2.cr) ∧ wz.cell? ⟨X2, 7, none⟩ = some (I64 x.scheme) ∧ wz.cell? ⟨X2, 8, none⟩ = some (I64 x.stage) ∧ wz.cell? ⟨X2, 9, none⟩ = some (I64 x.to) ∧ wz.cell? ⟨X2, 10, none⟩ = some (StrV x.lo) ∧ wz.cell? ⟨X2, 11, none⟩ = some (StrV x.hi) ∧ wz.cell? ⟨X2, 12, none⟩ = some (.slice p2.b x.bytes.length p2.cb) ∧ wz.cell? ⟨X3, 0, none⟩ = some (I64 x.kind) ∧ wz.cell? ⟨X3, 1, none⟩ = some (I64 x.nm.1) ∧ wz.cell? ⟨X3, 2, none⟩ = some (I64 x.nm.2) ∧ wz.cell? ⟨X3, 3, none⟩ = some (I64 x.epoch) ∧ wz.cell? ⟨X3, 4, none⟩ = some (.slice p3.a x.acts.length p3.ca) ∧ wz.cell? ⟨X3, 5, none⟩ = some (.bool x.commit) ∧ wz.cell? ⟨X3, 6, none⟩ = some (.slice p3.r x.reads.length p3.cr) ∧ wz.cell? ⟨X3, 7, none⟩ = some (I64 x.scheme) ∧ wz.cell? ⟨X3, 8, none⟩ = some (I64 x.stage) ∧ wz.cell? ⟨X3, 9, none⟩ = some (I64 x.to) ∧ wz.cell? ⟨X3, 10, none⟩ = some (StrV x.lo) ∧ wz.cell? ⟨X3, 11, none⟩ = some (StrV x.hi) ∧ wz.cell? ⟨X3, 12, none⟩ = some (.slice p3.b x.bytes.length p3.cb) ∧ wz.cell? ⟨X5, 0, none⟩ = some (I64 y.err) ∧ wz.cell? ⟨X5, 1, none⟩ = some (I64 y.nm.1) ∧ wz.cell? ⟨X5, 2, none⟩ = some (I64 y.nm.2) ∧ wz.cell? ⟨X5, 3, none⟩ = some (.bool y.is) ∧ wz.cell? ⟨X5, 4, none⟩ = some (.bool y.commit) ∧ wz.cell? ⟨X5, 5, none⟩ = some (.slice p5.r y.reads.length p5.cr) ∧ wz.cell? ⟨X5, 6, none⟩ = some (I64 y.scheme) ∧ wz.cell? ⟨X5, 7, none⟩ = some (I64 y.stage) ∧ wz.cell? ⟨X5, 8, none⟩ = some (.slice p5.b y.bytes.length p5.cb) ∧ wz.cell? ⟨X6, 0, none⟩ = some (I64 y.err) ∧ wz.cell? ⟨X6, 1, none⟩ = some (I64 y.nm.1) ∧ wz.cell? ⟨X6, 2, none⟩ = some (I64 y.nm.2) ∧ wz.cell? ⟨X6, 3, none⟩ = some (.bool y.is) ∧ wz.cell? ⟨X6, 4, none⟩ = some (.bool y.commit) ∧ wz.cell? ⟨X6, 5, none⟩ = some (.slice p6.r y.reads.length p6.cr) ∧ wz.cell? ⟨X6, 6, none⟩ = some (I64 y.scheme) ∧ wz.cell? ⟨X6, 7, none⟩ = some (I64 y.stage) ∧ wz.cell? ⟨X6, 8, none⟩ = some (.slice p6.b y.bytes.length p6.cb) ∧ wz.cell? ⟨X4, 12, none⟩ = some (.slice p4.b x.bytes.length p4.cb) ∧ wz.cell? ⟨X7, 8, none⟩ = some (.slice p7.b y.bytes.length p7.cb) := fun wz f => by
      have a2 := B2.fr f (fun h => (hSlt _ h).2.2.1 rfl)
      have a3 := B3.fr f (fun h => (hSlt _ h).2.2.2.1 rfl)
      have a4 := B4.fr f (fun h => (hSlt _ h).2.2.2.2.1 rfl)
      have a5 := B5.fr f (fun h => (hSlt _ h).2.2.2.2.2.1 rfl)
      have a6 := B6.fr f (fun h => (hSlt _ h).2.2.2.2.2.2.1 rfl)
      have a7 := B7.fr f (fun h => (hSlt _ h).2.2.2.2.2.2.2.1 rfl)
      exact ⟨by simpa using a2.cell 0, by simpa using a2.cell 1, by simpa using a2.cell 2, by simpa using a2.cell 3, by simpa using a2.cell 4, by simpa using a2.cell 5, by simpa using a2.cell 6, by simpa using a2.cell 7, by simpa using a2.cell 8, by simpa using a2.cell 9, by simpa using a2.cell 10, by simpa using a2.cell 11, by simpa using a2.cell 12, by simpa using a3.cell 0, by simpa using a3.cell 1, by simpa using a3.cell 2, by simpa using a3.cell 3, by simpa using a3.cell 4, by simpa using a3.cell 5, by simpa using a3.cell 6, by simpa using a3.cell 7, by simpa using a3.cell 8, by simpa using a3.cell 9, by simpa using a3.cell 10, by simpa using a3.cell 11, by simpa using a3.cell 12, by simpa using a5.cell 0, by simpa using a5.cell 1, by simpa using a5.cell 2, by simpa using a5.cell 3, by simpa using a5.cell 4, by simpa using a5.cell 5, by simpa using a5.cell 6, by simpa using a5.cell 7, by simpa using a5.cell 8, by simpa using a6.cell 0, by simpa using a6.cell 1, by simpa using a6.cell 2, by simpa using a6.cell 3, by simpa using a6.cell 4, by simpa using a6.cell 5, by simpa using a6.cell 6, by simpa using a6.cell 7, by simpa using a6.cell 8, by simpa using a4.cell 12, by simpa using a7.cell 8⟩
    have l10 := fun w' => turned22_any w' x p2 hkx
    have l12 : ∀ wz, Nw V7 wz → Calls Tryz.prog 18 #[.agg (ofA (I64 x.kind) x p2), .agg (ofA (I64 x.kind) x p3)] wz fun e w' => e = .returned (.bool true) ∧ Nw wz w' := fun wz f =>
      (rsame_any wz _ _ x x p2 p3 (O2.in_.fr f (fun _ _ h => h)) (O3.in_.fr f (fun _ _ h => h)) hzx).mono fun e w' h => ⟨by simpa using h.1, h.2⟩
    have l16 := fun w' => told22_any w' y p5
    have l18 : ∀ wz, Nw V7 wz → Calls Tryz.prog 21 #[.agg (afA y p5), .agg (afA y p6)] wz fun e w' => e = .returned (.bool true) ∧ Nw wz w' := fun wz f =>
      (rsameAns_any wz _ _ y y p5 p6 (O5.in_.fr f (fun _ _ h => h)) (O6.in_.fr f (fun _ _ h => h)) hzy).mono fun e w' h => ⟨by simpa using h.1, h.2⟩
    have l23 : ∀ wz, Fr S V7 wz → Calls Tryz.prog 31 #[.slice (some ⟨gb, 0, none⟩) n (n + 12), .slice A n c] wz fun e w' => e = .returned (.bool true) ∧ Nw wz w' := fun wz f =>
      (KP.out wz gb (by omega) (Lent.fr lb7 f (fun k hk h => (hSlt _ h).2.2.2.2.2.2.2.2 ((inA_some _ _).1 hk))) ((hs.fr Q7 (fun _ _ h => h)).fr f (fun k hk h => by have := (hSlt _ h).1; have := Q1.size; omega))).mono fun e w' h => ⟨h.1, h.2.fr _⟩
    have l35 : ∀ wz (b : Nat), Nw V7 wz → Blk wz b 22 #[.slice p2.b x.bytes.length p2.cb, .slice p4.b x.bytes.length p4.cb, .slice p5.b y.bytes.length p5.cb, .slice p7.b y.bytes.length p7.cb] → Calls Tryz.prog 32 #[.slice (some ⟨b, 0, none⟩) 4 4] wz fun e w' => e = .returned (.bool true) ∧ Fr S wz w' := fun wz b f hb => by
      have e2 : Own wz 5 1 p2.b x.bytes.length p2.cb (x.bytes.map B8) := O2.bytes.fr f (fun _ _ h => h)
      have e4 : Own wz 5 1 p4.b x.bytes.length p4.cb (x.bytes.map B8) := O4.bytes.fr f (fun _ _ h => h)
      have e5 : Own wz 5 1 p5.b y.bytes.length p5.cb (y.bytes.map B8) := O5.bytes.fr f (fun _ _ h => h)
      have e7 : Own wz 5 1 p7.b y.bytes.length p7.cb (y.bytes.map B8) := O7.bytes.fr f (fun _ _ h => h)
      have hbx := hzx.bytes
      have hby := hzy.bytes
      refine (apart_list wz b [⟨p2.b, x.bytes.length, p2.cb, x.bytes⟩, ⟨p4.b, x.bytes.length, p4.cb, x.bytes⟩, ⟨p5.b, y.bytes.length, p5.cb, y.bytes⟩, ⟨p7.b, y.bytes.length, p7.cb, y.bytes⟩] hb (fun h hh => ?_) ?_ (by simp) (fun h hh => ?_)).mono fun e w' ⟨he, hf⟩ => ⟨he, hf.mono fun k hk => .inl ?_⟩
      · simp only [List.mem_cons, List.not_mem_nil, or_false] at hh
        rcases hh with rfl | rfl | rfl | rfl
        · exact e2
        · exact e4
        · exact e5
        · exact e7
      · have d24 : ∀ k, inA p2.b k → ¬ inA p4.b k := fun k h1 h2 => by have := r2 k h1; have := r4 k h2; omega
        have d25 : ∀ k, inA p2.b k → ¬ inA p5.b k := fun k h1 h2 => by have := r2 k h1; have := r5 k h2; omega
        have d27 : ∀ k, inA p2.b k → ¬ inA p7.b k := fun k h1 h2 => by have := r2 k h1; have := r7 k h2; omega
        have d45 : ∀ k, inA p4.b k → ¬ inA p5.b k := fun k h1 h2 => by have := r4 k h1; have := r5 k h2; omega
        have d47 : ∀ k, inA p4.b k → ¬ inA p7.b k := fun k h1 h2 => by have := r4 k h1; have := r7 k h2; omega
        have d57 : ∀ k, inA p5.b k → ¬ inA p7.b k := fun k h1 h2 => by have := r5 k h1; have := r7 k h2; omega
        refine List.Pairwise.cons (fun z hz => ?_) (List.Pairwise.cons (fun z hz => ?_) (List.Pairwise.cons (fun z hz => ?_) (List.pairwise_singleton _ _)))
        · simp only [List.mem_cons, List.not_mem_nil, or_false] at hz
          rcases hz with rfl | rfl | rfl
          · exact d24
          · exact d25
          · exact d27
        · simp only [List.mem_cons, List.not_mem_nil, or_false] at hz
          rcases hz with rfl | rfl
          · exact d45
          · exact d47
        · rw [List.mem_singleton.1 hz]
          exact d57
      · simp only [List.mem_cons, List.not_mem_nil, or_false] at hh
        rcases hh with rfl | rfl | rfl | rfl
        · show x.bytes.length ≤ _; omega
        · show x.bytes.length ≤ _; omega
        · show y.bytes.length ≤ _; omega
        · show y.bytes.length ≤ _; omega
      · obtain ⟨h, hh, hk⟩ := hk
        rw [hS0]
        simp only [List.mem_cons, List.not_mem_nil, or_false] at hh
        rcases hh with rfl | rfl | rfl | rfl
        · exact .inl hk
        · exact .inr (.inl hk)
        · exact .inr (.inr (.inl hk))
        · exact .inr (.inr (.inr hk))
    have hQ : ∀ wz, Fr S V7 wz → Nw w wz := fun wz f => Q7.new f (fun k hk => by have := (hSlt k hk).1; have := Q1.size; omega)
    have HQ := Lib.hid hQ
    have hSt : ∀ k, S k → k < V7.heap.size := fun k hk => (hSlt k hk).2.1
    clear hQ B2 B3 B4 B5 B6 B7 O2 O3 O4 O5 O6 O7 o2 o4 o5 o7 o2' o3' o4' o5' o6' o7' b2 b3 b4 b5 b6 b7 hSlt hS0 r2 r4 r5 r7 lb7 hs G2 G3 G5 G6 KP hlb HGB lb1
    have hlast : LastsS S ([blkF V7 34 22 #[.slice p2.b x.bytes.length p2.cb, .slice p4.b x.bytes.length p4.cb, .slice p5.b y.bytes.length p5.cb, .slice p7.b y.bytes.length p7.cb]]) := (by intro f hf; simp only [List.mem_cons, List.not_mem_nil, or_false] at hf; rcases hf with rfl <;> exact blkF_lastsS _ _ hSt _ _ _)
    refine wp_region_effS S 35 ([blkF V7 34 22 #[.slice p2.b x.bytes.length p2.cb, .slice p4.b x.bytes.length p4.cb, .slice p5.b y.bytes.length p5.cb, .slice p7.b y.bytes.length p7.cb]]) (by kernel_rfl) (by kernel_rfl) ?_
    apply wpEff2_cons
    focus
      intro B L wz hL hD hC
      refine .inl ⟨by rfl, ?_⟩
      obtain ⟨c2_0, c2_1, c2_2, c2_3, c2_4, c2_5, c2_6, c2_7, c2_8, c2_9, c2_10, c2_11, c2_12, c3_0, c3_1, c3_2, c3_3, c3_4, c3_5, c3_6, c3_7, c3_8, c3_9, c3_10, c3_11, c3_12, c5_0, c5_1, c5_2, c5_3, c5_4, c5_5, c5_6, c5_7, c5_8, c6_0, c6_1, c6_2, c6_3, c6_4, c6_5, c6_6, c6_7, c6_8, c4_12, c7_8⟩ := hS wz hC.fr
      unfold effAt
      go_simp
      exact ⟨rfl, hC.keep (by kernel_rfl) hD (by rfl) (by rfl)⟩
    simp only [Act.put, List.setIfInBounds_toArray, List.set_cons_zero, List.set_cons_succ]
    apply wpEff2_cons
    focus
      intro B L wz hL hD hC
      refine .inl ⟨by rfl, ?_⟩
      obtain ⟨c2_0, c2_1, c2_2, c2_3, c2_4, c2_5, c2_6, c2_7, c2_8, c2_9, c2_10, c2_11, c2_12, c3_0, c3_1, c3_2, c3_3, c3_4, c3_5, c3_6, c3_7, c3_8, c3_9, c3_10, c3_11, c3_12, c5_0, c5_1, c5_2, c5_3, c5_4, c5_5, c5_6, c5_7, c5_8, c6_0, c6_1, c6_2, c6_3, c6_4, c6_5, c6_6, c6_7, c6_8, c4_12, c7_8⟩ := hS wz hC.fr
      unfold effAt
      go_simp
      exact ⟨rfl, hC.keep (by kernel_rfl) hD (by rfl) (by rfl)⟩
    simp only [Act.put, List.setIfInBounds_toArray, List.set_cons_zero, List.set_cons_succ]
    apply wpEff2_cons
    focus
      intro B L wz hL hD hC
      refine .inl ⟨by rfl, ?_⟩
      obtain ⟨c2_0, c2_1, c2_2, c2_3, c2_4, c2_5, c2_6, c2_7, c2_8, c2_9, c2_10, c2_11, c2_12, c3_0, c3_1, c3_2, c3_3, c3_4, c3_5, c3_6, c3_7, c3_8, c3_9, c3_10, c3_11, c3_12, c5_0, c5_1, c5_2, c5_3, c5_4, c5_5, c5_6, c5_7, c5_8, c6_0, c6_1, c6_2, c6_3, c6_4, c6_5, c6_6, c6_7, c6_8, c4_12, c7_8⟩ := hS wz hC.fr
      unfold effAt
      go_simp
      exact ⟨rfl, hC.keep (by kernel_rfl) hD (by rfl) (by rfl)⟩
    simp only [Act.put, List.setIfInBounds_toArray, List.set_cons_zero, List.set_cons_succ]
    apply wpEff2_cons
    focus
      intro B L wz hL hD hC
      refine .inl ⟨by rfl, ?_⟩
      obtain ⟨c2_0, c2_1, c2_2, c2_3, c2_4, c2_5, c2_6, c2_7, c2_8, c2_9, c2_10, c2_11, c2_12, c3_0, c3_1, c3_2, c3_3, c3_4, c3_5, c3_6, c3_7, c3_8, c3_9, c3_10, c3_11, c3_12, c5_0, c5_1, c5_2, c5_3, c5_4, c5_5, c5_6, c5_7, c5_8, c6_0, c6_1, c6_2, c6_3, c6_4, c6_5, c6_6, c6_7, c6_8, c4_12, c7_8⟩ := hS wz hC.fr
      unfold effAt
      go_simp
      exact ⟨rfl, hC.keep (by kernel_rfl) hD (by rfl) (by rfl)⟩
    simp only [Act.put, List.setIfInBounds_toArray, List.set_cons_zero, List.set_cons_succ]
    apply wpEff2_cons
    focus
      intro B L wz hL hD hC
      refine .inl ⟨by rfl, ?_⟩
      obtain ⟨c2_0, c2_1, c2_2, c2_3, c2_4, c2_5, c2_6, c2_7, c2_8, c2_9, c2_10, c2_11, c2_12, c3_0, c3_1, c3_2, c3_3, c3_4, c3_5, c3_6, c3_7, c3_8, c3_9, c3_10, c3_11, c3_12, c5_0, c5_1, c5_2, c5_3, c5_4, c5_5, c5_6, c5_7, c5_8, c6_0, c6_1, c6_2, c6_3, c6_4, c6_5, c6_6, c6_7, c6_8, c4_12, c7_8⟩ := hS wz hC.fr
      unfold effAt
      go_simp
      exact ⟨rfl, hC.keep (by kernel_rfl) hD (by rfl) (by rfl)⟩
    simp only [Act.put, List.setIfInBounds_toArray, List.set_cons_zero, List.set_cons_succ]
    apply wpEff2_cons
    focus
      intro B L wz hL hD hC
      refine .inl ⟨by rfl, ?_⟩
      obtain ⟨c2_0, c2_1, c2_2, c2_3, c2_4, c2_5, c2_6, c2_7, c2_8, c2_9, c2_10, c2_11, c2_12, c3_0, c3_1, c3_2, c3_3, c3_4, c3_5, c3_6, c3_7, c3_8, c3_9, c3_10, c3_11, c3_12, c5_0, c5_1, c5_2, c5_3, c5_4, c5_5, c5_6, c5_7, c5_8, c6_0, c6_1, c6_2, c6_3, c6_4, c6_5, c6_6, c6_7, c6_8, c4_12, c7_8⟩ := hS wz hC.fr
      unfold effAt
      go_simp
      exact ⟨rfl, hC.keep (by kernel_rfl) hD (by rfl) (by rfl)⟩
    simp only [Act.put, List.setIfInBounds_toArray, List.set_cons_zero, List.set_cons_succ]
    apply wpEff2_cons
    focus
      intro B L wz hL hD hC
      refine .inl ⟨by rfl, ?_⟩
      obtain ⟨c2_0, c2_1, c2_2, c2_3, c2_4, c2_5, c2_6, c2_7, c2_8, c2_9, c2_10, c2_11, c2_12, c3_0, c3_1, c3_2, c3_3, c3_4, c3_5, c3_6, c3_7, c3_8, c3_9, c3_10, c3_11, c3_12, c5_0, c5_1, c5_2, c5_3, c5_4, c5_5, c5_6, c5_7, c5_8, c6_0, c6_1, c6_2, c6_3, c6_4, c6_5, c6_6, c6_7, c6_8, c4_12, c7_8⟩ := hS wz hC.fr
      unfold effAt
      go_simp
      exact ⟨rfl, hC.keep (by kernel_rfl) hD (by rfl) (by rfl)⟩
    simp only [Act.put, List.setIfInBounds_toArray, List.set_cons_zero, List.set_cons_succ]
    apply wpEff2_cons
    focus
      intro B L wz hL hD hC
      refine .inl ⟨by rfl, ?_⟩
      obtain ⟨c2_0, c2_1, c2_2, c2_3, c2_4, c2_5, c2_6, c2_7, c2_8, c2_9, c2_10, c2_11, c2_12, c3_0, c3_1, c3_2, c3_3, c3_4, c3_5, c3_6, c3_7, c3_8, c3_9, c3_10, c3_11, c3_12, c5_0, c5_1, c5_2, c5_3, c5_4, c5_5, c5_6, c5_7, c5_8, c6_0, c6_1, c6_2, c6_3, c6_4, c6_5, c6_6, c6_7, c6_8, c4_12, c7_8⟩ := hS wz hC.fr
      unfold effAt
      go_simp
      exact ⟨rfl, hC.keep (by kernel_rfl) hD (by rfl) (by rfl)⟩
    simp only [Act.put, List.setIfInBounds_toArray, List.set_cons_zero, List.set_cons_succ]
    apply wpEff2_cons
    focus
      intro B L wz hL hD hC
      refine .inl ⟨by rfl, ?_⟩
      obtain ⟨c2_0, c2_1, c2_2, c2_3, c2_4, c2_5, c2_6, c2_7, c2_8, c2_9, c2_10, c2_11, c2_12, c3_0, c3_1, c3_2, c3_3, c3_4, c3_5, c3_6, c3_7, c3_8, c3_9, c3_10, c3_11, c3_12, c5_0, c5_1, c5_2, c5_3, c5_4, c5_5, c5_6, c5_7, c5_8, c6_0, c6_1, c6_2, c6_3, c6_4, c6_5, c6_6, c6_7, c6_8, c4_12, c7_8⟩ := hS wz hC.fr
      unfold effAt
      go_simp
      exact ⟨rfl, hC.keep (by kernel_rfl) hD (by rfl) (by rfl)⟩
    simp only [Act.put, List.setIfInBounds_toArray, List.set_cons_zero, List.set_cons_succ]
    apply wpEff2_cons
    focus
      intro B L wz hL hD hC
      refine .inl ⟨by rfl, ?_⟩
      obtain ⟨c2_0, c2_1, c2_2, c2_3, c2_4, c2_5, c2_6, c2_7, c2_8, c2_9, c2_10, c2_11, c2_12, c3_0, c3_1, c3_2, c3_3, c3_4, c3_5, c3_6, c3_7, c3_8, c3_9, c3_10, c3_11, c3_12, c5_0, c5_1, c5_2, c5_3, c5_4, c5_5, c5_6, c5_7, c5_8, c6_0, c6_1, c6_2, c6_3, c6_4, c6_5, c6_6, c6_7, c6_8, c4_12, c7_8⟩ := hS wz hC.fr
      unfold effAt
      go_simp
      exact ⟨rfl, hC.keep (by kernel_rfl) hD (by rfl) (by rfl)⟩
    simp only [Act.put, List.setIfInBounds_toArray, List.set_cons_zero, List.set_cons_succ]
    apply wpEff2_cons
    focus
      intro B L wz hL hD hC
      have hnw := hC.nw [25, 23, 20, 18, 16, 14, 12, 10, 8] (by kernel_rfl) (by rfl) hL
      have hfr := hC.fr
      refine .inl ⟨by rfl, ?_⟩
      unfold effAt
      go_simp
      refine (l10 wz).mono ?_
      rintro e w9 ⟨rfl, q9⟩
      exact ⟨rfl, (hC.go hlast q9).keep (by kernel_rfl) hD (by rfl) (by rfl)⟩
    simp only [Act.put, List.setIfInBounds_toArray, List.set_cons_zero, List.set_cons_succ]
    apply wpEff2_cons
    focus
      intro B L wz hL hD hC
      refine .inl ⟨by rfl, ?_⟩
      obtain ⟨c2_0, c2_1, c2_2, c2_3, c2_4, c2_5, c2_6, c2_7, c2_8, c2_9, c2_10, c2_11, c2_12, c3_0, c3_1, c3_2, c3_3, c3_4, c3_5, c3_6, c3_7, c3_8, c3_9, c3_10, c3_11, c3_12, c5_0, c5_1, c5_2, c5_3, c5_4, c5_5, c5_6, c5_7, c5_8, c6_0, c6_1, c6_2, c6_3, c6_4, c6_5, c6_6, c6_7, c6_8, c4_12, c7_8⟩ := hS wz hC.fr
      unfold effAt
      go_simp
      exact ⟨rfl, hC.keep (by kernel_rfl) hD (by rfl) (by rfl)⟩
    simp only [Act.put, List.setIfInBounds_toArray, List.set_cons_zero, List.set_cons_succ]
    apply wpEff2_cons
    focus
      intro B L wz hL hD hC
      have hnw := hC.nw [25, 23, 20, 18, 16, 14, 12, 10, 8] (by kernel_rfl) (by rfl) hL
      have hfr := hC.fr
      refine .inl ⟨by rfl, ?_⟩
      unfold effAt
      go_simp
      refine (l12 wz hnw).mono ?_
      rintro e w9 ⟨rfl, q9⟩
      exact ⟨rfl, (hC.go hlast q9).keep (by kernel_rfl) hD (by rfl) (by rfl)⟩
    simp only [Act.put, List.setIfInBounds_toArray, List.set_cons_zero, List.set_cons_succ]
    apply wpEff2_cons
    focus
      intro B L wz hL hD hC
      refine .inl ⟨by rfl, ?_⟩
      obtain ⟨c2_0, c2_1, c2_2, c2_3, c2_4, c2_5, c2_6, c2_7, c2_8, c2_9, c2_10, c2_11, c2_12, c3_0, c3_1, c3_2, c3_3, c3_4, c3_5, c3_6, c3_7, c3_8, c3_9, c3_10, c3_11, c3_12, c5_0, c5_1, c5_2, c5_3, c5_4, c5_5, c5_6, c5_7, c5_8, c6_0, c6_1, c6_2, c6_3, c6_4, c6_5, c6_6, c6_7, c6_8, c4_12, c7_8⟩ := hS wz hC.fr
      unfold effAt
      go_simp
      exact ⟨rfl, hC.keep (by kernel_rfl) hD (by rfl) (by rfl)⟩
    simp only [Act.put, List.setIfInBounds_toArray, List.set_cons_zero, List.set_cons_succ]
    apply wpEff2_cons
    focus
      intro B L wz hL hD hC
      refine .inl ⟨by rfl, ?_⟩
      obtain ⟨c2_0, c2_1, c2_2, c2_3, c2_4, c2_5, c2_6, c2_7, c2_8, c2_9, c2_10, c2_11, c2_12, c3_0, c3_1, c3_2, c3_3, c3_4, c3_5, c3_6, c3_7, c3_8, c3_9, c3_10, c3_11, c3_12, c5_0, c5_1, c5_2, c5_3, c5_4, c5_5, c5_6, c5_7, c5_8, c6_0, c6_1, c6_2, c6_3, c6_4, c6_5, c6_6, c6_7, c6_8, c4_12, c7_8⟩ := hS wz hC.fr
      unfold effAt
      go_simp
      exact ⟨rfl, hC.keep (by kernel_rfl) hD (by rfl) (by rfl)⟩
    simp only [Act.put, List.setIfInBounds_toArray, List.set_cons_zero, List.set_cons_succ]
    apply wpEff2_cons
    focus
      intro B L wz hL hD hC
      refine .inl ⟨by rfl, ?_⟩
      obtain ⟨c2_0, c2_1, c2_2, c2_3, c2_4, c2_5, c2_6, c2_7, c2_8, c2_9, c2_10, c2_11, c2_12, c3_0, c3_1, c3_2, c3_3, c3_4, c3_5, c3_6, c3_7, c3_8, c3_9, c3_10, c3_11, c3_12, c5_0, c5_1, c5_2, c5_3, c5_4, c5_5, c5_6, c5_7, c5_8, c6_0, c6_1, c6_2, c6_3, c6_4, c6_5, c6_6, c6_7, c6_8, c4_12, c7_8⟩ := hS wz hC.fr
      unfold effAt
      go_simp
      exact ⟨rfl, hC.keep (by kernel_rfl) hD (by rfl) (by rfl)⟩
    simp only [Act.put, List.setIfInBounds_toArray, List.set_cons_zero, List.set_cons_succ]
    apply wpEff2_cons
    focus
      intro B L wz hL hD hC
      have hnw := hC.nw [25, 23, 20, 18, 16, 14, 12, 10, 8] (by kernel_rfl) (by rfl) hL
      have hfr := hC.fr
      refine .inl ⟨by rfl, ?_⟩
      unfold effAt
      go_simp
      refine (l16 wz).mono ?_
      rintro e w9 ⟨rfl, q9⟩
      exact ⟨rfl, (hC.go hlast q9).keep (by kernel_rfl) hD (by rfl) (by rfl)⟩
    simp only [Act.put, List.setIfInBounds_toArray, List.set_cons_zero, List.set_cons_succ]
    apply wpEff2_cons
    focus
      intro B L wz hL hD hC
      refine .inl ⟨by rfl, ?_⟩
      obtain ⟨c2_0, c2_1, c2_2, c2_3, c2_4, c2_5, c2_6, c2_7, c2_8, c2_9, c2_10, c2_11, c2_12, c3_0, c3_1, c3_2, c3_3, c3_4, c3_5, c3_6, c3_7, c3_8, c3_9, c3_10, c3_11, c3_12, c5_0, c5_1, c5_2, c5_3, c5_4, c5_5, c5_6, c5_7, c5_8, c6_0, c6_1, c6_2, c6_3, c6_4, c6_5, c6_6, c6_7, c6_8, c4_12, c7_8⟩ := hS wz hC.fr
      unfold effAt
      go_simp
      exact ⟨rfl, hC.keep (by kernel_rfl) hD (by rfl) (by rfl)⟩
    simp only [Act.put, List.setIfInBounds_toArray, List.set_cons_zero, List.set_cons_succ]
    apply wpEff2_cons
    focus
      intro B L wz hL hD hC
      have hnw := hC.nw [25, 23, 20, 18, 16, 14, 12, 10, 8] (by kernel_rfl) (by rfl) hL
      have hfr := hC.fr
      refine .inl ⟨by rfl, ?_⟩
      unfold effAt
      go_simp
      refine (l18 wz hnw).mono ?_
      rintro e w9 ⟨rfl, q9⟩
      exact ⟨rfl, (hC.go hlast q9).keep (by kernel_rfl) hD (by rfl) (by rfl)⟩
    simp only [Act.put, List.setIfInBounds_toArray, List.set_cons_zero, List.set_cons_succ]
    apply wpEff2_cons
    focus
      intro B L wz hL hD hC
      refine .inl ⟨by rfl, ?_⟩
      obtain ⟨c2_0, c2_1, c2_2, c2_3, c2_4, c2_5, c2_6, c2_7, c2_8, c2_9, c2_10, c2_11, c2_12, c3_0, c3_1, c3_2, c3_3, c3_4, c3_5, c3_6, c3_7, c3_8, c3_9, c3_10, c3_11, c3_12, c5_0, c5_1, c5_2, c5_3, c5_4, c5_5, c5_6, c5_7, c5_8, c6_0, c6_1, c6_2, c6_3, c6_4, c6_5, c6_6, c6_7, c6_8, c4_12, c7_8⟩ := hS wz hC.fr
      unfold effAt
      go_simp
      exact ⟨rfl, hC.keep (by kernel_rfl) hD (by rfl) (by rfl)⟩
    simp only [Act.put, List.setIfInBounds_toArray, List.set_cons_zero, List.set_cons_succ]
    apply wpEff2_cons
    focus
      intro B L wz hL hD hC
      refine .inl ⟨by rfl, ?_⟩
      obtain ⟨c2_0, c2_1, c2_2, c2_3, c2_4, c2_5, c2_6, c2_7, c2_8, c2_9, c2_10, c2_11, c2_12, c3_0, c3_1, c3_2, c3_3, c3_4, c3_5, c3_6, c3_7, c3_8, c3_9, c3_10, c3_11, c3_12, c5_0, c5_1, c5_2, c5_3, c5_4, c5_5, c5_6, c5_7, c5_8, c6_0, c6_1, c6_2, c6_3, c6_4, c6_5, c6_6, c6_7, c6_8, c4_12, c7_8⟩ := hS wz hC.fr
      unfold effAt
      go_simp
      exact ⟨rfl, hC.keep (by kernel_rfl) hD (by rfl) (by rfl)⟩
    simp only [Act.put, List.setIfInBounds_toArray, List.set_cons_zero, List.set_cons_succ]
    apply wpEff2_cons
    focus
      intro B L wz hL hD hC
      refine .inl ⟨by rfl, ?_⟩
      obtain ⟨c2_0, c2_1, c2_2, c2_3, c2_4, c2_5, c2_6, c2_7, c2_8, c2_9, c2_10, c2_11, c2_12, c3_0, c3_1, c3_2, c3_3, c3_4, c3_5, c3_6, c3_7, c3_8, c3_9, c3_10, c3_11, c3_12, c5_0, c5_1, c5_2, c5_3, c5_4, c5_5, c5_6, c5_7, c5_8, c6_0, c6_1, c6_2, c6_3, c6_4, c6_5, c6_6, c6_7, c6_8, c4_12, c7_8⟩ := hS wz hC.fr
      unfold effAt
      go_simp
      exact ⟨rfl, hC.keep (by kernel_rfl) hD (by rfl) (by rfl)⟩
    simp only [Act.put, List.setIfInBounds_toArray, List.set_cons_zero, List.set_cons_succ]
    apply wpEff2_cons
    focus
      intro B L wz hL hD hC
      refine .inl ⟨by rfl, ?_⟩
      obtain ⟨c2_0, c2_1, c2_2, c2_3, c2_4, c2_5, c2_6, c2_7, c2_8, c2_9, c2_10, c2_11, c2_12, c3_0, c3_1, c3_2, c3_3, c3_4, c3_5, c3_6, c3_7, c3_8, c3_9, c3_10, c3_11, c3_12, c5_0, c5_1, c5_2, c5_3, c5_4, c5_5, c5_6, c5_7, c5_8, c6_0, c6_1, c6_2, c6_3, c6_4, c6_5, c6_6, c6_7, c6_8, c4_12, c7_8⟩ := hS wz hC.fr
      unfold effAt
      go_simp
      exact ⟨rfl, hC.keep (by kernel_rfl) hD (by rfl) (by rfl)⟩
    simp only [Act.put, List.setIfInBounds_toArray, List.set_cons_zero, List.set_cons_succ]
    apply wpEff2_cons
    focus
      intro B L wz hL hD hC
      have hnw := hC.nw [25, 23, 20, 18, 16, 14, 12, 10, 8] (by kernel_rfl) (by rfl) hL
      have hfr := hC.fr
      refine .inl ⟨by rfl, ?_⟩
      unfold effAt
      go_simp
      refine (l23 wz hfr).mono ?_
      rintro e w9 ⟨rfl, q9⟩
      exact ⟨rfl, (hC.go hlast q9).keep (by kernel_rfl) hD (by rfl) (by rfl)⟩
    simp only [Act.put, List.setIfInBounds_toArray, List.set_cons_zero, List.set_cons_succ]
    apply wpEff2_cons
    focus
      intro B L wz hL hD hC
      refine .inl ⟨by rfl, ?_⟩
      obtain ⟨c2_0, c2_1, c2_2, c2_3, c2_4, c2_5, c2_6, c2_7, c2_8, c2_9, c2_10, c2_11, c2_12, c3_0, c3_1, c3_2, c3_3, c3_4, c3_5, c3_6, c3_7, c3_8, c3_9, c3_10, c3_11, c3_12, c5_0, c5_1, c5_2, c5_3, c5_4, c5_5, c5_6, c5_7, c5_8, c6_0, c6_1, c6_2, c6_3, c6_4, c6_5, c6_6, c6_7, c6_8, c4_12, c7_8⟩ := hS wz hC.fr
      unfold effAt
      go_simp
      exact ⟨rfl, hC.keep (by kernel_rfl) hD (by rfl) (by rfl)⟩
    simp only [Act.put, List.setIfInBounds_toArray, List.set_cons_zero, List.set_cons_succ]
    apply wpEff2_cons
    focus
      intro B L wz hL hD hC
      refine .inl ⟨by rfl, ?_⟩
      obtain ⟨c2_0, c2_1, c2_2, c2_3, c2_4, c2_5, c2_6, c2_7, c2_8, c2_9, c2_10, c2_11, c2_12, c3_0, c3_1, c3_2, c3_3, c3_4, c3_5, c3_6, c3_7, c3_8, c3_9, c3_10, c3_11, c3_12, c5_0, c5_1, c5_2, c5_3, c5_4, c5_5, c5_6, c5_7, c5_8, c6_0, c6_1, c6_2, c6_3, c6_4, c6_5, c6_6, c6_7, c6_8, c4_12, c7_8⟩ := hS wz hC.fr
      unfold effAt
      go_simp
      exact ⟨rfl, hC.keep (by kernel_rfl) hD (by rfl) (by rfl)⟩
    simp only [Act.put, List.setIfInBounds_toArray, List.set_cons_zero, List.set_cons_succ]
    apply wpEff2_cons
    focus
      intro B L wz hL hD hC
      refine .inl ⟨by rfl, ?_⟩
      obtain ⟨c2_0, c2_1, c2_2, c2_3, c2_4, c2_5, c2_6, c2_7, c2_8, c2_9, c2_10, c2_11, c2_12, c3_0, c3_1, c3_2, c3_3, c3_4, c3_5, c3_6, c3_7, c3_8, c3_9, c3_10, c3_11, c3_12, c5_0, c5_1, c5_2, c5_3, c5_4, c5_5, c5_6, c5_7, c5_8, c6_0, c6_1, c6_2, c6_3, c6_4, c6_5, c6_6, c6_7, c6_8, c4_12, c7_8⟩ := hS wz hC.fr
      unfold effAt
      go_simp
      exact ⟨rfl, hC.keep (by kernel_rfl) hD (by rfl) (by rfl)⟩
    simp only [Act.put, List.setIfInBounds_toArray, List.set_cons_zero, List.set_cons_succ]
    apply wpEff2_cons
    focus
      intro B L wz hL hD hC
      refine .inl ⟨by rfl, ?_⟩
      obtain ⟨c2_0, c2_1, c2_2, c2_3, c2_4, c2_5, c2_6, c2_7, c2_8, c2_9, c2_10, c2_11, c2_12, c3_0, c3_1, c3_2, c3_3, c3_4, c3_5, c3_6, c3_7, c3_8, c3_9, c3_10, c3_11, c3_12, c5_0, c5_1, c5_2, c5_3, c5_4, c5_5, c5_6, c5_7, c5_8, c6_0, c6_1, c6_2, c6_3, c6_4, c6_5, c6_6, c6_7, c6_8, c4_12, c7_8⟩ := hS wz hC.fr
      unfold effAt
      go_simp
      exact ⟨rfl, hC.keep (by kernel_rfl) hD (by rfl) (by rfl)⟩
    simp only [Act.put, List.setIfInBounds_toArray, List.set_cons_zero, List.set_cons_succ]
    apply wpEff2_cons
    focus
      intro B L wz hL hD hC
      refine .inl ⟨by rfl, ?_⟩
      obtain ⟨c2_0, c2_1, c2_2, c2_3, c2_4, c2_5, c2_6, c2_7, c2_8, c2_9, c2_10, c2_11, c2_12, c3_0, c3_1, c3_2, c3_3, c3_4, c3_5, c3_6, c3_7, c3_8, c3_9, c3_10, c3_11, c3_12, c5_0, c5_1, c5_2, c5_3, c5_4, c5_5, c5_6, c5_7, c5_8, c6_0, c6_1, c6_2, c6_3, c6_4, c6_5, c6_6, c6_7, c6_8, c4_12, c7_8⟩ := hS wz hC.fr
      unfold effAt
      go_simp
      exact ⟨rfl, hC.keep (by kernel_rfl) hD (by rfl) (by rfl)⟩
    simp only [Act.put, List.setIfInBounds_toArray, List.set_cons_zero, List.set_cons_succ]
    apply wpEff2_cons
    focus
      intro B L wz hL hD hC
      refine .inl ⟨by rfl, ?_⟩
      obtain ⟨c2_0, c2_1, c2_2, c2_3, c2_4, c2_5, c2_6, c2_7, c2_8, c2_9, c2_10, c2_11, c2_12, c3_0, c3_1, c3_2, c3_3, c3_4, c3_5, c3_6, c3_7, c3_8, c3_9, c3_10, c3_11, c3_12, c5_0, c5_1, c5_2, c5_3, c5_4, c5_5, c5_6, c5_7, c5_8, c6_0, c6_1, c6_2, c6_3, c6_4, c6_5, c6_6, c6_7, c6_8, c4_12, c7_8⟩ := hS wz hC.fr
      unfold effAt
      go_simp
      exact ⟨rfl, hC.keep (by kernel_rfl) hD (by rfl) (by rfl)⟩
    simp only [Act.put, List.setIfInBounds_toArray, List.set_cons_zero, List.set_cons_succ]
    apply wpEff2_cons
    focus
      intro B L wz hL hD hC
      refine .inl ⟨by rfl, ?_⟩
      obtain ⟨c2_0, c2_1, c2_2, c2_3, c2_4, c2_5, c2_6, c2_7, c2_8, c2_9, c2_10, c2_11, c2_12, c3_0, c3_1, c3_2, c3_3, c3_4, c3_5, c3_6, c3_7, c3_8, c3_9, c3_10, c3_11, c3_12, c5_0, c5_1, c5_2, c5_3, c5_4, c5_5, c5_6, c5_7, c5_8, c6_0, c6_1, c6_2, c6_3, c6_4, c6_5, c6_6, c6_7, c6_8, c4_12, c7_8⟩ := hS wz hC.fr
      unfold effAt
      go_simp
      exact ⟨rfl, hC.keep (by kernel_rfl) hD (by rfl) (by rfl)⟩
    simp only [Act.put, List.setIfInBounds_toArray, List.set_cons_zero, List.set_cons_succ]
    apply wpEff2_cons
    focus
      intro B L wz hL hD hC
      refine .inl ⟨by rfl, ?_⟩
      obtain ⟨c2_0, c2_1, c2_2, c2_3, c2_4, c2_5, c2_6, c2_7, c2_8, c2_9, c2_10, c2_11, c2_12, c3_0, c3_1, c3_2, c3_3, c3_4, c3_5, c3_6, c3_7, c3_8, c3_9, c3_10, c3_11, c3_12, c5_0, c5_1, c5_2, c5_3, c5_4, c5_5, c5_6, c5_7, c5_8, c6_0, c6_1, c6_2, c6_3, c6_4, c6_5, c6_6, c6_7, c6_8, c4_12, c7_8⟩ := hS wz hC.fr
      unfold effAt
      go_simp
      exact ⟨rfl, hC.keep (by kernel_rfl) hD (by rfl) (by rfl)⟩
    simp only [Act.put, List.setIfInBounds_toArray, List.set_cons_zero, List.set_cons_succ]
    apply wpEff2_cons
    focus
      intro B L wz hL hD hC
      refine .inl ⟨by rfl, ?_⟩
      obtain ⟨c2_0, c2_1, c2_2, c2_3, c2_4, c2_5, c2_6, c2_7, c2_8, c2_9, c2_10, c2_11, c2_12, c3_0, c3_1, c3_2, c3_3, c3_4, c3_5, c3_6, c3_7, c3_8, c3_9, c3_10, c3_11, c3_12, c5_0, c5_1, c5_2, c5_3, c5_4, c5_5, c5_6, c5_7, c5_8, c6_0, c6_1, c6_2, c6_3, c6_4, c6_5, c6_6, c6_7, c6_8, c4_12, c7_8⟩ := hS wz hC.fr
      unfold effAt
      go_simp
      exact ⟨rfl, hC.keep (by kernel_rfl) hD (by rfl) (by rfl)⟩
    simp only [Act.put, List.setIfInBounds_toArray, List.set_cons_zero, List.set_cons_succ]
    apply wpEff2_cons
    focus
      intro B L wz hL hD hC
      refine .inl ⟨by rfl, ?_⟩
      obtain ⟨c2_0, c2_1, c2_2, c2_3, c2_4, c2_5, c2_6, c2_7, c2_8, c2_9, c2_10, c2_11, c2_12, c3_0, c3_1, c3_2, c3_3, c3_4, c3_5, c3_6, c3_7, c3_8, c3_9, c3_10, c3_11, c3_12, c5_0, c5_1, c5_2, c5_3, c5_4, c5_5, c5_6, c5_7, c5_8, c6_0, c6_1, c6_2, c6_3, c6_4, c6_5, c6_6, c6_7, c6_8, c4_12, c7_8⟩ := hS wz hC.fr
      unfold effAt
      go_simp
      exact ⟨rfl, hC.keep (by kernel_rfl) hD (by rfl) (by rfl)⟩
    simp only [Act.put, List.setIfInBounds_toArray, List.set_cons_zero, List.set_cons_succ]
    refine wpEff2_free (fun b => .slice (some ⟨b.1, 0, none⟩) 4 4) ?_ ?_
    focus
      intro B L wz hL hD hC
      refine .inl ⟨by rfl, ?_⟩
      unfold effAt2
      go_simp
      exact ⟨(wz.heap.size, none), rfl, hC.put hlast ((Fr.refl (fun _ => False) wz).alloc _) _ _ (by kernel_rfl) hD (by rfl) (by intro f hf hk; simp only [List.mem_cons, List.not_mem_nil, or_false] at hf; rcases hf with rfl <;> first | exact ⟨Blk.new wz _ _, hC.fr.size⟩ | exact absurd hk (by simp [blkF]))⟩
    simp only [Act.put, List.setIfInBounds_toArray, List.set_cons_zero, List.set_cons_succ]
    apply wpEff2_cons
    focus
      intro B L wz hL hD hC
      have g0 := hC.get 0 _ rfl (hD 34 (by kernel_rfl))
      have hnw := hC.nw [25, 23, 20, 18, 16, 14, 12, 10, 8] (by kernel_rfl) (by rfl) hL
      have hfr := hC.fr
      refine .inl ⟨by rfl, ?_⟩
      unfold effAt
      go_simp
      refine (l35 wz _ hnw g0.1).mono ?_
      rintro e w9 ⟨rfl, q9⟩
      exact ⟨rfl, hC.turn hlast q9 (by kernel_rfl) hD (by rfl)⟩
    simp only [Act.put, List.setIfInBounds_toArray, List.set_cons_zero, List.set_cons_succ]
    apply wpEff2_cons
    focus
      intro B L wz hL hD hC
      refine .inl ⟨by rfl, ?_⟩
      obtain ⟨c2_0, c2_1, c2_2, c2_3, c2_4, c2_5, c2_6, c2_7, c2_8, c2_9, c2_10, c2_11, c2_12, c3_0, c3_1, c3_2, c3_3, c3_4, c3_5, c3_6, c3_7, c3_8, c3_9, c3_10, c3_11, c3_12, c5_0, c5_1, c5_2, c5_3, c5_4, c5_5, c5_6, c5_7, c5_8, c6_0, c6_1, c6_2, c6_3, c6_4, c6_5, c6_6, c6_7, c6_8, c4_12, c7_8⟩ := hS wz hC.fr
      unfold effAt
      go_simp
      exact ⟨rfl, hC.keep (by kernel_rfl) hD (by rfl) (by rfl)⟩
    simp only [Act.put, List.setIfInBounds_toArray, List.set_cons_zero, List.set_cons_succ]
    apply wpEff2_cons
    focus
      intro B L wz hL hD hC
      refine .inl ⟨by rfl, ?_⟩
      obtain ⟨c2_0, c2_1, c2_2, c2_3, c2_4, c2_5, c2_6, c2_7, c2_8, c2_9, c2_10, c2_11, c2_12, c3_0, c3_1, c3_2, c3_3, c3_4, c3_5, c3_6, c3_7, c3_8, c3_9, c3_10, c3_11, c3_12, c5_0, c5_1, c5_2, c5_3, c5_4, c5_5, c5_6, c5_7, c5_8, c6_0, c6_1, c6_2, c6_3, c6_4, c6_5, c6_6, c6_7, c6_8, c4_12, c7_8⟩ := hS wz hC.fr
      unfold effAt
      go_simp
      exact ⟨rfl, hC.keep (by kernel_rfl) hD (by rfl) (by rfl)⟩
    simp only [Act.put, List.setIfInBounds_toArray, List.set_cons_zero, List.set_cons_succ]
    apply wpEff2_cons
    focus
      intro B L wz hL hD hC
      refine .inl ⟨by rfl, ?_⟩
      obtain ⟨c2_0, c2_1, c2_2, c2_3, c2_4, c2_5, c2_6, c2_7, c2_8, c2_9, c2_10, c2_11, c2_12, c3_0, c3_1, c3_2, c3_3, c3_4, c3_5, c3_6, c3_7, c3_8, c3_9, c3_10, c3_11, c3_12, c5_0, c5_1, c5_2, c5_3, c5_4, c5_5, c5_6, c5_7, c5_8, c6_0, c6_1, c6_2, c6_3, c6_4, c6_5, c6_6, c6_7, c6_8, c4_12, c7_8⟩ := hS wz hC.fr
      unfold effAt
      go_simp
      exact ⟨rfl, hC.keep (by kernel_rfl) hD (by rfl) (by rfl)⟩
    simp only [Act.put, List.setIfInBounds_toArray, List.set_cons_zero, List.set_cons_succ]
    apply wpEff2_cons
    focus
      intro B L wz hL hD hC
      refine .inl ⟨by rfl, ?_⟩
      obtain ⟨c2_0, c2_1, c2_2, c2_3, c2_4, c2_5, c2_6, c2_7, c2_8, c2_9, c2_10, c2_11, c2_12, c3_0, c3_1, c3_2, c3_3, c3_4, c3_5, c3_6, c3_7, c3_8, c3_9, c3_10, c3_11, c3_12, c5_0, c5_1, c5_2, c5_3, c5_4, c5_5, c5_6, c5_7, c5_8, c6_0, c6_1, c6_2, c6_3, c6_4, c6_5, c6_6, c6_7, c6_8, c4_12, c7_8⟩ := hS wz hC.fr
      unfold effAt
      go_simp
      exact ⟨rfl, hC.keep (by kernel_rfl) hD (by rfl) (by rfl)⟩
    simp only [Act.put, List.setIfInBounds_toArray, List.set_cons_zero, List.set_cons_succ]
    apply wpEff2_cons
    focus
      intro B L wz hL hD hC
      have hfr := hC.fr
      refine .inl ⟨by rfl, ?_⟩
      unfold effAt
      go_simp
      refine (l23 wz hfr).mono ?_
      rintro e w9 ⟨rfl, q9⟩
      exact ⟨rfl, (hC.go hlast q9).keep (by kernel_rfl) hD (by rfl) (by rfl)⟩
    simp only [Act.put, List.setIfInBounds_toArray, List.set_cons_zero, List.set_cons_succ]
    apply wpEff2_cons
    focus
      intro B L wz hL hD hC
      refine .inl ⟨by rfl, ?_⟩
      obtain ⟨c2_0, c2_1, c2_2, c2_3, c2_4, c2_5, c2_6, c2_7, c2_8, c2_9, c2_10, c2_11, c2_12, c3_0, c3_1, c3_2, c3_3, c3_4, c3_5, c3_6, c3_7, c3_8, c3_9, c3_10, c3_11, c3_12, c5_0, c5_1, c5_2, c5_3, c5_4, c5_5, c5_6, c5_7, c5_8, c6_0, c6_1, c6_2, c6_3, c6_4, c6_5, c6_6, c6_7, c6_8, c4_12, c7_8⟩ := hS wz hC.fr
      unfold effAt
      go_simp
      exact ⟨rfl, hC.keep (by kernel_rfl) hD (by rfl) (by rfl)⟩
    simp only [Act.put, List.setIfInBounds_toArray, List.set_cons_zero, List.set_cons_succ]
    apply wpEff2_cons
    focus
      intro B L wz hL hD hC
      refine .inl ⟨by rfl, ?_⟩
      obtain ⟨c2_0, c2_1, c2_2, c2_3, c2_4, c2_5, c2_6, c2_7, c2_8, c2_9, c2_10, c2_11, c2_12, c3_0, c3_1, c3_2, c3_3, c3_4, c3_5, c3_6, c3_7, c3_8, c3_9, c3_10, c3_11, c3_12, c5_0, c5_1, c5_2, c5_3, c5_4, c5_5, c5_6, c5_7, c5_8, c6_0, c6_1, c6_2, c6_3, c6_4, c6_5, c6_6, c6_7, c6_8, c4_12, c7_8⟩ := hS wz hC.fr
      unfold effAt
      go_simp
      exact ⟨rfl, hC.keep (by kernel_rfl) hD (by rfl) (by rfl)⟩
    simp only [Act.put, List.setIfInBounds_toArray, List.set_cons_zero, List.set_cons_succ]
    apply wpEff2_cons
    focus
      intro B L wz hL hD hC
      have hfr := hC.fr
      refine .inl ⟨by rfl, ?_⟩
      unfold effAt
      go_simp
      refine (haw wz).mono ?_
      rintro e w9 ⟨rfl, q9⟩
      exact ⟨rfl, (hC.go hlast q9).keep (by kernel_rfl) hD (by rfl) (by rfl)⟩
    simp only [Act.put, List.setIfInBounds_toArray, List.set_cons_zero, List.set_cons_succ]
    apply wpEff2_cons
    focus
      intro B L wz hL hD hC
      refine .inl ⟨by rfl, ?_⟩
      obtain ⟨c2_0, c2_1, c2_2, c2_3, c2_4, c2_5, c2_6, c2_7, c2_8, c2_9, c2_10, c2_11, c2_12, c3_0, c3_1, c3_2, c3_3, c3_4, c3_5, c3_6, c3_7, c3_8, c3_9, c3_10, c3_11, c3_12, c5_0, c5_1, c5_2, c5_3, c5_4, c5_5, c5_6, c5_7, c5_8, c6_0, c6_1, c6_2, c6_3, c6_4, c6_5, c6_6, c6_7, c6_8, c4_12, c7_8⟩ := hS wz hC.fr
      unfold effAt
      go_simp
      exact ⟨rfl, hC.keep (by kernel_rfl) hD (by rfl) (by rfl)⟩
    simp only [Act.put, List.setIfInBounds_toArray, List.set_cons_zero, List.set_cons_succ]
    apply wpEff2_cons
    focus
      intro B L wz hL hD hC
      refine .inl ⟨by rfl, ?_⟩
      obtain ⟨c2_0, c2_1, c2_2, c2_3, c2_4, c2_5, c2_6, c2_7, c2_8, c2_9, c2_10, c2_11, c2_12, c3_0, c3_1, c3_2, c3_3, c3_4, c3_5, c3_6, c3_7, c3_8, c3_9, c3_10, c3_11, c3_12, c5_0, c5_1, c5_2, c5_3, c5_4, c5_5, c5_6, c5_7, c5_8, c6_0, c6_1, c6_2, c6_3, c6_4, c6_5, c6_6, c6_7, c6_8, c4_12, c7_8⟩ := hS wz hC.fr
      unfold effAt
      go_simp
      exact ⟨rfl, hC.keep (by kernel_rfl) hD (by rfl) (by rfl)⟩
    simp only [Act.put, List.setIfInBounds_toArray, List.set_cons_zero, List.set_cons_succ]
    refine wpEff2_nil fun B wz hC5 => ?_
    have hnw := HQ.out _ hC5.fr
    go_wp2_with fail
    go_ret
    exact ⟨rfl, hnw⟩
  · have h5i : (5000 : Int) < (n : Int) := by omega
    have h5d : decide ((5000 : Int) < (n : Int)) = true := decide_eq_true h5i
    clear G2 G3 G5 G6 KP hlb
    go_enter Tryz.func7, Tryz.ntmps7
    go_wp2_with (go_at_call 13; refine (haw _).mono ?_; rintro e w2 ⟨rfl, q2⟩)
    go_ret
    exact ⟨rfl, q2⟩
end Go.Proofs.YtkjnlhidnkbelaaGreatDoor
