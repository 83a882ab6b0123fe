/- Orders: answers told, the law's walk. (Printed by genoz.py.) -/
import Derived.Test.YtkjnlhidnkbelaaGreatDoorOgA
import Derived.Test.YtkjnlhidnkbelaaGreatDoorOxC
import Derived.Test.YtkjnlhidnkbelaaGreatDoorKitRd
import Derived.Test.YtkjnlhidnkbelaaGreatDoorOdSU
namespace Go.Proofs.YtkjnlhidnkbelaaGreatDoor
open Go Go.RowKit
set_option linter.unusedVariables false
set_option linter.unusedSimpArgs false
theorem RfC.go {W w w' : World} {fs : List Fact} {L : Nat → Bool} {B : Bk} (h : RfC W fs L B w) (hlast : Lasts fs) (q : Nw w w') : RfC W fs L B w' :=
  ⟨h.1.tr q, fun f hf hl => hlast f hf _ _ _ (h.2 f hf hl) q⟩
/-- What comes out: bytes, error. -/
def putOut (r : Option (List UInt8)) : List UInt8 × Int := match r with
  | none => ([], 2)
  | some b => (b, 0)
theorem PutTo.out {w w' : World} {r : Option (List UInt8)} {e : Ending} (h : PutTo w r e w') : ∃ A c, e = .returned (.tuple #[.slice A (putOut r).1.length c, .int .i64 (putOut r).2]) ∧ Own w' 5 1 A (putOut r).1.length c ((putOut r).1.map B8) ∧ Nw w w' ∧ ∀ k, inA A k → w.heap.size ≤ k := by
  cases r with
  | none => exact ⟨none, 0, h.1, Own.nil _ _ _, h.2, fun k hk => (inA_none k hk).elim⟩
  | some b => exact h
theorem RPutTo.out {w w' : World} {r : Option (List UInt8)} {e : Ending} (h : RPutTo w r e w') : ∃ A c, e = .returned (.tuple #[.slice A (putOut r).1.length c, .int .i64 (putOut r).2]) ∧ Nw w w' ∧ Sl w' (fun j => w.heap.size ≤ j) A ((putOut r).1.map B8) := by
  cases r with
  | none => exact ⟨none, 0, h.1, h.2, .inl rfl⟩
  | some b =>
    obtain ⟨b, h1, h2, h3, _⟩ := h
    exact ⟨b.2, b.1, h1, h2, h3⟩
theorem ansB_most {x : AnsF} (h : ansOk x = true) : (ansB x).length ≤ 1000000 := by
  have hs := ansOk_sm h
  have h1 := encAll_le [x.err, x.nm.1, x.nm.2]
  have h2 := encAll_le [x.scheme, x.stage]
  have h3 := rdgs_most x.reads (rdgOks_sm hs.reads.2)
  have h4 := enc_len x.reads.length
  have h5 := rowB_most x.bytes
  have h6 := hs.bytes
  have h7 := hs.reads.1
  unfold ansB
  simp only [List.length_append, List.length_cons, List.length_nil, flagB] at *
  omega
theorem Lent.row {w : World} {A : Option Addr} {ys : List UInt8} (h : Lent w A ys) : Sl w (inA A) A (ys.map B8) := by
  have h1 := (Own.sl h).pre (k := ys.length)
  rw [List.map_append, List.take_left' (by simp)] at h1
  exact h1
theorem Lent.fr {w w' : World} {S : Nat → Prop} {A : Option Addr} {ys : List UInt8} (h : Lent w A ys) (hf : Fr S w w') (hn : ∀ k, inA A k → ¬ S k) : Lent w' A ys := Own.fr h hf hn
set_option maxRecDepth 100000 in
set_option maxHeartbeats 8000000 in
theorem tells_walk (w : World) (F : Nat → Prop) (x : AnsF) (p : Pl) (hi : AnsIn w F x p) (hrz : RdgSz x.reads) :
    Calls Tryz.prog 6 #[.agg (afA x p)] w fun e w' => e = .returned (.bool true) ∧ Nw w w' := by
  have haw := fun w => awake22_any w
  obtain ⟨W0, hW0⟩ : ∃ W0, W0 = w.alloc (.cells (afA x p) 41) := ⟨_, rfl⟩
  have q0 : Nw w W0 := by rw [hW0]; exact (Fr.refl (fun _ => False) w).alloc _
  have x0 : Blk W0 w.heap.size 41 (afA x p) := by rw [hW0]; exact Blk.new w _ _
  have hgr := great22_any W0 (fun _ => False) none p.r p.b 0 x.reads.length p.cr x.bytes.length p.cb [] [] [] (.inl rfl) (Nat.zero_le _) (fun a h => by cases h) (Nat.zero_le _) (Nat.zero_le _)
  have hgr : Calls Tryz.prog 14 #[.slice none 0 0, .slice p.r x.reads.length p.cr, .slice p.b x.bytes.length p.cb, .agg #[.string ⟨#[]⟩, .string ⟨#[]⟩]] W0 fun e w' => Great22 W0 [] x.reads.length x.bytes.length 0 e w' := hgr
  have HW0 := Lib.hid hW0
  clear hW0
  go_enter Tryz.func6, Tryz.ntmps6
  go_upto_region 1 with (fail)
  rw [← HW0.out]
  have c5 : W0.cell? ⟨w.heap.size, 5, none⟩ = some (.slice p.r x.reads.length p.cr) := by simpa using x0.cell 5
  have c8 : W0.cell? ⟨w.heap.size, 8, none⟩ = some (.slice p.b x.bytes.length p.cb) := by simpa using x0.cell 8
  go_wp2_with fail
  refine hgr.mono ?_
  rintro e w1 ⟨b, rfl, hb, q1⟩
  have Q1 := q0.tr q1
  have HB := Lib.hid hb
  clear hb hgr c5 c8
  cases b with
  | true =>
    go_wp2_with fail
    refine (haw _).mono ?_
    rintro e w2 ⟨rfl, q2⟩
    go_wp2_with fail
    go_ret
    exact ⟨rfl, Q1.tr q2⟩
  | false =>
    obtain ⟨_, hrl, hbl, _⟩ := HB.out rfl
    have hsz : AnsSz x := ⟨⟨by omega, hrz⟩, by omega⟩
    have x1 := x0.fr q1 (fun h => h)
    obtain ⟨W3, hW3⟩ : ∃ W3, W3 = w1.alloc (.cells (afA x p) 41) := ⟨_, rfl⟩
    have q3 : Nw w1 W3 := by rw [hW3]; exact (Fr.refl (fun _ => False) w1).alloc _
    obtain ⟨g, hg⟩ : ∃ g, g = w1.heap.size := ⟨_, rfl⟩
    have n3 : Blk W3 g 41 (afA x p) := by rw [hW3, hg]; exact Blk.new w1 _ _
    have hgw : w.heap.size < g := by have := x1.lt; omega
    have x3 := x1.fr q3 (fun h => h)
    have Q3 := Q1.tr q3
    have d5 : W3.cell? ⟨w.heap.size, 5, none⟩ = some (.slice p.r x.reads.length p.cr) := by simpa using x3.cell 5
    have hlr := lent_reads W3 F p.r p.cr x.reads (hi.reads.fr Q3 (fun _ _ h => h)) (by omega)
    have HW3 := Lib.hid hW3
    have HG := Lib.hid hg
    clear hW3
    go_upto_region 3 with (fail)
    go_upto_region 4 with (refine wpList_load_row rfl 41 _ rfl w.heap.size rfl 41 _ (0, 0) _ x1 Tryz.underlying41 rfl ans_size ?_)
    rw [← HW3.out, ← HG.out]
    clear hg
    go_upto_region 5 with (go_at_call 25; refine hlr.mono ?_; rintro e w4 ⟨gr, rfl, lr4, q4, hgr4⟩; have n4 := n3.fr q4 (fun h => h); have e5 : w4.cell? ⟨g, 5, none⟩ = some (.slice p.r x.reads.length p.cr) := (by simpa using n4.cell 5); have f5 := n4.frozen 5)
    obtain ⟨W5, hW5⟩ : ∃ W5, W5 = w4.setCell ⟨g, 5, none⟩ (.slice (some ⟨gr, 0, none⟩) x.reads.length (x.reads.length + 12)) := ⟨_, rfl⟩
    obtain ⟨p1, hp1⟩ : ∃ p1 : Pl, p1 = { p with r := some ⟨gr, 0, none⟩, cr := x.reads.length + 12 } := ⟨_, rfl⟩
    have n5 : Blk W5 g 41 (afA x p1) := by rw [hW5, hp1]; exact n4.set_ 5 _
    have s5 : Fr (· = g) w4 W5 := by rw [hW5]; exact (Fr.refl _ w4).set1 _ _
    have x5 := (x3.fr q4 (fun h => h)).fr s5 (fun h => by omega)
    have hglt := n3.lt
    have lr5 := lr4.fr s5 (fun h => by omega)
    have Q5 : Nw w W5 := (Q3.tr q4).new s5 (fun k hk => by omega)
    have d8 : W5.cell? ⟨w.heap.size, 8, none⟩ = some (.slice p.b x.bytes.length p.cb) := by simpa using x5.cell 8
    have hlb := lent_u8 W5 F p.b p.cb x.bytes (hi.bytes.fr Q5 (fun _ _ h => h)) (by omega)
    have HW5 := Lib.hid hW5
    rw [← HW5.out]
    have e8p : p1.b = p.b ∧ p1.cb = p.cb := by rw [hp1]; exact ⟨rfl, rfl⟩
    clear hW5 n4 e5 f5
    go_upto_region 6 with (go_at_call 26; refine hlb.mono ?_; rintro e w6 ⟨gb, rfl, lb6, q6, hgb6⟩; have n6 := n5.fr q6 (fun h => h); have e8 : w6.cell? ⟨g, 8, none⟩ = some (.slice p1.b x.bytes.length p1.cb) := (by simpa using n6.cell 8); have f8 := n6.frozen 8)
    obtain ⟨W7, hW7⟩ : ∃ W7, W7 = w6.setCell ⟨g, 8, none⟩ (.slice (some ⟨gb, 0, none⟩) x.bytes.length (x.bytes.length + 12)) := ⟨_, rfl⟩
    obtain ⟨p2, hp2⟩ : ∃ p2 : Pl, p2 = { p1 with b := some ⟨gb, 0, none⟩, cb := x.bytes.length + 12 } := ⟨_, rfl⟩
    have n7 : Blk W7 g 41 (afA x p2) := by rw [hW7, hp2]; exact n6.set_ 8 _
    have s7 : Fr (· = g) w6 W7 := by rw [hW7]; exact (Fr.refl _ w6).set1 _ _
    have x7 := (x5.fr q6 (fun h => h)).fr s7 (fun h => by omega)
    have hg5 := n5.lt
    have lr7 := (lr5.fr q6 (fun h => h)).fr s7 (fun h => by omega)
    have lb7 := lb6.fr s7 (fun k hk h => by have h1 : k = gb := (inA_some _ _).1 hk; have h2 : k = g := h; omega)
    have Q7 : Nw w W7 := (Q5.tr q6).new s7 (fun k hk => by omega)
    have hp2r : p2.r = some ⟨gr, 0, none⟩ ∧ p2.cr = x.reads.length + 12 ∧ p2.b = some ⟨gb, 0, none⟩ ∧ p2.cb = x.bytes.length + 12 := by rw [hp2, hp1]; exact ⟨rfl, rfl, rfl, rfl⟩
    obtain ⟨r1, r2, r3, r4⟩ := hp2r
    have hin7 : ∀ w', Nw W7 w' → AnsIn w' (fun _ => True) x p2 := fun w' f => by
      refine ⟨?_, ?_, by rw [r2]; unfold maxLen; omega, by rw [r4]; unfold maxLen; omega⟩
      · rw [r1]; exact ((lr7.row).fr f (fun _ _ h => h)).mono (fun _ _ _ => trivial)
      · rw [r3]; exact ((Lent.row lb7).fr f (fun _ _ h => h)).mono (fun _ _ _ => trivial)
    have hix7 : ∀ w', Nw W7 w' → AnsIn w' F x p := fun w' f => hi.fr (Q7.tr f) (fun _ _ h => h)
    have HW7 := Lib.hid hW7
    rw [← HW7.out]
    clear hW7 n6 e8 f8 n5 x5 x3 x1 x0 n3 lr4 lr5 lb6 hlr hlb d5 d8 hp1 hp2
    have hp := oputAns_any W7 _ x p2 (hin7 W7 (Fr.refl _ _)) hsz
    obtain ⟨po, hpo⟩ : ∃ po, (if ansOk x = true then some (ansB x) else none) = po := ⟨_, rfl⟩
    have hxp := fun w' (f : Nw W7 w') => xputAns_any w' F x p (hix7 w' f) hsz
    rw [hpo] at hp
    simp only [hpo] at hxp
    have hpl : (putOut po).1.length ≤ 1000000 := by
      rw [← hpo]
      by_cases hok : ansOk x = true
      · rw [if_pos hok]; exact ansB_most hok
      · rw [if_neg hok]; exact Nat.zero_le _
    clear hpo
    obtain ⟨bs, hbs⟩ : ∃ bs, (putOut po).1 = bs := ⟨_, rfl⟩
    obtain ⟨er, her⟩ : ∃ er, (putOut po).2 = er := ⟨_, rfl⟩
    obtain ⟨n, hn⟩ : ∃ n, bs.length = n := ⟨_, rfl⟩
    have hp2 : Calls Tryz.prog 15 #[.agg (afA x p2)] W7 fun e w' => ∃ A c, e = .returned (.tuple #[.slice A n c, .int .i64 er]) ∧ Sl w' (inA A) A (bs.map B8) ∧ Nw W7 w' := hp.mono fun e w' h => by
      obtain ⟨A, c, h1, h2, h3, _⟩ := h.out
      rw [hbs, her, hn] at h1
      rw [hbs] at h2
      exact ⟨A, c, h1, h2.sl, h3⟩
    have hxp2 : ∀ w', Nw W7 w' → Calls Tryz.prog 33 #[.agg (afA x p)] w' fun e w'' => ∃ A c, e = .returned (.tuple #[.slice A n c, .int .i64 er]) ∧ Sl w'' (fun _ => True) A (bs.map B8) ∧ Nw w' w'' := fun w' f => (hxp w' f).mono fun e w'' h => by
      obtain ⟨A, c, h1, h2, h3⟩ := h.out
      rw [hbs, her, hn] at h1
      rw [hbs] at h3
      exact ⟨A, c, h1, h3.mono (fun _ _ _ => trivial), h2⟩
    rw [hbs, hn] at hpl
    have HNN := Lib.hid hn
    clear hp hxp hbs her hn
    have htd := fun w' => told22_any w' x p
    go_upto_region 7 with (first | (refine wpList_load_row rfl 41 _ rfl g rfl 41 _ (0, 0) _ n7 Tryz.underlying41 rfl ans_size ?_) | (go_at_call 15; refine hp2.mono ?_; rintro e w8 ⟨A, c, rfl, ho, q8⟩))
    have x8 := x7.fr q8 (fun h => h)
    go_upto_region 8 with (first | (refine wpList_load_row rfl 41 _ rfl w.heap.size rfl 41 _ (0, 0) _ x8 Tryz.underlying41 rfl ans_size ?_) | (go_at_call 22; refine (htd _).mono ?_; rintro e w9 ⟨rfl, q9⟩) | (go_at_call 33; refine (hxp2 w9 (q8.tr q9)).mono ?_; rintro e w10 ⟨A2, c2, rfl, hs2, q10⟩))
    have R0 : Nw W7 w10.drew := ((q8.tr q9).tr q10).drew
    have R : ∀ wz, Nw w10.drew wz → Nw W7 wz := fun wz f => R0.tr f
    have hS : ∀ wz, Nw w10.drew wz → wz.cell? ⟨w.heap.size, 0, none⟩ = some (I64 x.err) ∧ wz.cell? ⟨w.heap.size, 1, none⟩ = some (I64 x.nm.1) ∧ wz.cell? ⟨w.heap.size, 2, none⟩ = some (I64 x.nm.2) ∧ wz.cell? ⟨w.heap.size, 3, none⟩ = some (.bool x.is) ∧ wz.cell? ⟨w.heap.size, 4, none⟩ = some (.bool x.commit) ∧ wz.cell? ⟨w.heap.size, 5, none⟩ = some (.slice p.r x.reads.length p.cr) ∧ wz.cell? ⟨w.heap.size, 6, none⟩ = some (I64 x.scheme) ∧ wz.cell? ⟨w.heap.size, 7, none⟩ = some (I64 x.stage) ∧ wz.cell? ⟨w.heap.size, 8, none⟩ = some (.slice p.b x.bytes.length p.cb) ∧ wz.cell? ⟨g, 0, none⟩ = some (I64 x.err) ∧ wz.cell? ⟨g, 1, none⟩ = some (I64 x.nm.1) ∧ wz.cell? ⟨g, 2, none⟩ = some (I64 x.nm.2) ∧ wz.cell? ⟨g, 3, none⟩ = some (.bool x.is) ∧ wz.cell? ⟨g, 4, none⟩ = some (.bool x.commit) ∧ wz.cell? ⟨g, 5, none⟩ = some (.slice p2.r x.reads.length p2.cr) ∧ wz.cell? ⟨g, 6, none⟩ = some (I64 x.scheme) ∧ wz.cell? ⟨g, 7, none⟩ = some (I64 x.stage) ∧ wz.cell? ⟨g, 8, none⟩ = some (.slice p2.b x.bytes.length p2.cb) := fun wz f => by
      have a := x7.fr (R wz f) (fun h => h)
      have b := n7.fr (R wz f) (fun h => h)
      exact ⟨by simpa using a.cell 0, by simpa using a.cell 1, by simpa using a.cell 2, by simpa using a.cell 3, by simpa using a.cell 4, by simpa using a.cell 5, by simpa using a.cell 6, by simpa using a.cell 7, by simpa using a.cell 8, by simpa using b.cell 0, by simpa using b.cell 1, by simpa using b.cell 2, by simpa using b.cell 3, by simpa using b.cell 4, by simpa using b.cell 5, by simpa using b.cell 6, by simpa using b.cell 7, by simpa using b.cell 8⟩
    have l6 : ∀ wz, Nw w10.drew wz → Calls Tryz.prog 23 #[.slice A n c, .slice A2 n c2] wz fun e w' => e = .returned (.bool true) ∧ Nw wz w' := fun wz f => by
      have h1 := (ho.fr (q9.tr q10) (fun _ _ h => h)).fr (((Fr.refl (fun _ => False) w10).drew).tr f) (fun _ _ h => h)
      have h2 := hs2.fr (((Fr.refl (fun _ => False) w10).drew).tr f) (fun _ _ h => h)
      have h := same_u8 wz _ _ A A2 c c2 bs bs h1 h2 (by rw [HNN.out]; omega)
      rw [HNN.out] at h
      exact h.mono fun e w' h => ⟨by simpa using h.1, h.2.fr _⟩
    obtain ⟨ok, hok⟩ : ∃ ok, ansOk x = ok := ⟨_, rfl⟩
    have l11 : ∀ wz (b : Nat), Nw w10.drew wz → Blk wz b 41 (afA x p2) → Calls Tryz.prog 12 #[.slice (some ⟨b, 0, none⟩) 1 1] wz fun e w' => e = .returned (.bool ok) ∧ Nw wz w' := fun wz b f hb => by
      rw [← hok]; exact oSound_any wz _ b x p2 hb (hin7 wz (R wz f)) hsz
    have l14 : ∀ wz, Nw w10.drew wz → Calls Tryz.prog 34 #[.agg (afA x p)] wz fun e w' => e = .returned (.bool ok) ∧ Nw wz w' := fun wz f => by
      rw [← hok]; exact rsound_any wz F x p (hix7 wz (R wz f)) hsz
    have l22 : ∀ wz, Nw w10.drew wz → Calls Tryz.prog 30 #[.slice p2.r x.reads.length p2.cr, .slice p.r x.reads.length p.cr] wz fun e w' => e = .returned (.bool true) ∧ Nw wz w' := fun wz f => by
      rw [r1, r2]; exact kept_reads wz F gr p.r p.cr x.reads (lr7.fr (R wz f) (fun h => h)) (hix7 wz (R wz f)).reads (by omega)
    have l29 : ∀ wz, Nw w10.drew wz → Calls Tryz.prog 31 #[.slice p2.b x.bytes.length p2.cb, .slice p.b x.bytes.length p.cb] wz fun e w' => e = .returned (.bool true) ∧ Nw wz w' := fun wz f => by
      rw [r3, r4]; exact (kept_u8 wz F (some ⟨gb, 0, none⟩) p.b p.cb x.bytes (lb7.fr (R wz f) (fun _ _ h => h)) (hix7 wz (R wz f)).bytes (by omega)).mono fun e w' h => ⟨h.1, h.2.fr _⟩
    have hQ : Nw w w10.drew := Q7.tr R0
    have HQ := Lib.hid hQ
    clear hok hQ r1 r2 r3 r4 hin7 hix7 x7 n7 x8 ho hs2 lr7 lb7 HB
    have hlast : Lasts ([blkF w10.drew 10 41 (afA x p2)]) := (by intro f hf; simp only [List.mem_cons, List.not_mem_nil, or_false] at hf; rcases hf with rfl <;> first | exact bytesF_lasts _ _ _ | exact blkF_lasts _ _ _ _ | exact rowsF_lasts _ _ _ _ _)
    refine wp_region_eff2 (RfC w10.drew ([blkF w10.drew 10 41 (afA x p2)])) (fun _ => (0, none)) (by kernel_rfl) (by kernel_rfl) ⟨Fr.refl _ _, fun _ _ h => by cases h⟩ ?_
    apply wpEff2_cons
    focus
      intro B L wz hL hD hC
      refine .inl ⟨by rfl, ?_⟩
      obtain ⟨y_0, y_1, y_2, y_3, y_4, y_5, y_6, y_7, y_8, n_0, n_1, n_2, n_3, n_4, n_5, n_6, n_7, n_8⟩ := hS wz hC.nw
      unfold effAt
      go_simp
      exact ⟨rfl, hC.keep _ (by rfl)⟩
    simp only [Act.put, List.setIfInBounds_toArray, List.set_cons_zero, List.set_cons_succ]
    apply wpEff2_cons
    focus
      intro B L wz hL hD hC
      refine .inl ⟨by rfl, ?_⟩
      obtain ⟨y_0, y_1, y_2, y_3, y_4, y_5, y_6, y_7, y_8, n_0, n_1, n_2, n_3, n_4, n_5, n_6, n_7, n_8⟩ := hS wz hC.nw
      unfold effAt
      go_simp
      exact ⟨rfl, hC.keep _ (by rfl)⟩
    simp only [Act.put, List.setIfInBounds_toArray, List.set_cons_zero, List.set_cons_succ]
    apply wpEff2_cons
    focus
      intro B L wz hL hD hC
      refine .inl ⟨by rfl, ?_⟩
      obtain ⟨y_0, y_1, y_2, y_3, y_4, y_5, y_6, y_7, y_8, n_0, n_1, n_2, n_3, n_4, n_5, n_6, n_7, n_8⟩ := hS wz hC.nw
      unfold effAt
      go_simp
      exact ⟨rfl, hC.keep _ (by rfl)⟩
    simp only [Act.put, List.setIfInBounds_toArray, List.set_cons_zero, List.set_cons_succ]
    apply wpEff2_cons
    focus
      intro B L wz hL hD hC
      refine .inl ⟨by rfl, ?_⟩
      obtain ⟨y_0, y_1, y_2, y_3, y_4, y_5, y_6, y_7, y_8, n_0, n_1, n_2, n_3, n_4, n_5, n_6, n_7, n_8⟩ := hS wz hC.nw
      unfold effAt
      go_simp
      exact ⟨rfl, hC.keep _ (by rfl)⟩
    simp only [Act.put, List.setIfInBounds_toArray, List.set_cons_zero, List.set_cons_succ]
    apply wpEff2_cons
    focus
      intro B L wz hL hD hC
      refine .inl ⟨by rfl, ?_⟩
      obtain ⟨y_0, y_1, y_2, y_3, y_4, y_5, y_6, y_7, y_8, n_0, n_1, n_2, n_3, n_4, n_5, n_6, n_7, n_8⟩ := hS wz hC.nw
      unfold effAt
      go_simp
      exact ⟨rfl, hC.keep _ (by rfl)⟩
    simp only [Act.put, List.setIfInBounds_toArray, List.set_cons_zero, List.set_cons_succ]
    apply wpEff2_cons
    focus
      intro B L wz hL hD hC
      refine .inl ⟨by rfl, ?_⟩
      obtain ⟨y_0, y_1, y_2, y_3, y_4, y_5, y_6, y_7, y_8, n_0, n_1, n_2, n_3, n_4, n_5, n_6, n_7, n_8⟩ := hS wz hC.nw
      unfold effAt
      go_simp
      exact ⟨rfl, hC.keep _ (by rfl)⟩
    simp only [Act.put, List.setIfInBounds_toArray, List.set_cons_zero, List.set_cons_succ]
    apply wpEff2_cons
    focus
      intro B L wz hL hD hC
      have hnw := hC.nw
      refine .inl ⟨by rfl, ?_⟩
      unfold effAt
      go_simp
      refine (l6 wz hnw).mono ?_
      rintro e w9 ⟨rfl, q9⟩
      exact ⟨rfl, (hC.go hlast q9).keep _ (by rfl)⟩
    simp only [Act.put, List.setIfInBounds_toArray, List.set_cons_zero, List.set_cons_succ]
    apply wpEff2_cons
    focus
      intro B L wz hL hD hC
      refine .inl ⟨by rfl, ?_⟩
      obtain ⟨y_0, y_1, y_2, y_3, y_4, y_5, y_6, y_7, y_8, n_0, n_1, n_2, n_3, n_4, n_5, n_6, n_7, n_8⟩ := hS wz hC.nw
      unfold effAt
      go_simp
      exact ⟨rfl, hC.keep _ (by rfl)⟩
    simp only [Act.put, List.setIfInBounds_toArray, List.set_cons_zero, List.set_cons_succ]
    apply wpEff2_cons
    focus
      intro B L wz hL hD hC
      refine .inl ⟨by rfl, ?_⟩
      obtain ⟨y_0, y_1, y_2, y_3, y_4, y_5, y_6, y_7, y_8, n_0, n_1, n_2, n_3, n_4, n_5, n_6, n_7, n_8⟩ := hS wz hC.nw
      unfold effAt
      go_simp
      exact ⟨rfl, hC.keep _ (by rfl)⟩
    simp only [Act.put, List.setIfInBounds_toArray, List.set_cons_zero, List.set_cons_succ]
    apply wpEff2_cons
    focus
      intro B L wz hL hD hC
      refine .inl ⟨by rfl, ?_⟩
      obtain ⟨y_0, y_1, y_2, y_3, y_4, y_5, y_6, y_7, y_8, n_0, n_1, n_2, n_3, n_4, n_5, n_6, n_7, n_8⟩ := hS wz hC.nw
      unfold effAt
      go_simp
      exact ⟨rfl, hC.keep _ (by rfl)⟩
    simp only [Act.put, List.setIfInBounds_toArray, List.set_cons_zero, List.set_cons_succ]
    refine wpEff2_free (fun b => .slice (some ⟨b.1, 0, none⟩) 1 1) ?_ ?_
    focus
      intro B L wz hL hD hC
      refine .inl ⟨by rfl, ?_⟩
      unfold effAt2
      go_simp
      exact ⟨(wz.heap.size, none), rfl, hC.put hlast ((Fr.refl (fun _ => False) wz).alloc _) _ _ (by intro f hf hk; simp only [List.mem_cons, List.not_mem_nil, or_false] at hf; rcases hf with rfl <;> first | exact ⟨Blk.new wz _ _, hC.nw.size⟩ | exact absurd hk (by simp [bytesF, blkF, rowsF]))⟩
    simp only [Act.put, List.setIfInBounds_toArray, List.set_cons_zero, List.set_cons_succ]
    apply wpEff2_cons
    focus
      intro B L wz hL hD hC
      have g0 := hC.get 0 _ rfl (hD 10 (by kernel_rfl))
      have hnw := hC.nw
      refine .inl ⟨by rfl, ?_⟩
      unfold effAt
      go_simp
      refine (l11 wz _ hnw g0.1).mono ?_
      rintro e w9 ⟨rfl, q9⟩
      exact ⟨rfl, (hC.go hlast q9).keep _ (by rfl)⟩
    simp only [Act.put, List.setIfInBounds_toArray, List.set_cons_zero, List.set_cons_succ]
    apply wpEff2_cons
    focus
      intro B L wz hL hD hC
      refine .inl ⟨by rfl, ?_⟩
      obtain ⟨y_0, y_1, y_2, y_3, y_4, y_5, y_6, y_7, y_8, n_0, n_1, n_2, n_3, n_4, n_5, n_6, n_7, n_8⟩ := hS wz hC.nw
      unfold effAt
      go_simp
      exact ⟨rfl, hC.keep _ (by rfl)⟩
    simp only [Act.put, List.setIfInBounds_toArray, List.set_cons_zero, List.set_cons_succ]
    apply wpEff2_cons
    focus
      intro B L wz hL hD hC
      have hnw := hC.nw
      refine .inl ⟨by rfl, ?_⟩
      unfold effAt
      go_simp
      refine (htd wz).mono ?_
      rintro e w9 ⟨rfl, q9⟩
      exact ⟨rfl, (hC.go hlast q9).keep _ (by rfl)⟩
    simp only [Act.put, List.setIfInBounds_toArray, List.set_cons_zero, List.set_cons_succ]
    apply wpEff2_cons
    focus
      intro B L wz hL hD hC
      have hnw := hC.nw
      refine .inl ⟨by rfl, ?_⟩
      unfold effAt
      go_simp
      refine (l14 wz hnw).mono ?_
      rintro e w9 ⟨rfl, q9⟩
      exact ⟨rfl, (hC.go hlast q9).keep _ (by rfl)⟩
    simp only [Act.put, List.setIfInBounds_toArray, List.set_cons_zero, List.set_cons_succ]
    apply wpEff2_cons
    focus
      intro B L wz hL hD hC
      refine .inl ⟨by rfl, ?_⟩
      obtain ⟨y_0, y_1, y_2, y_3, y_4, y_5, y_6, y_7, y_8, n_0, n_1, n_2, n_3, n_4, n_5, n_6, n_7, n_8⟩ := hS wz hC.nw
      unfold effAt
      go_simp
      exact ⟨rfl, hC.keep _ (by rfl)⟩
    simp only [Act.put, List.setIfInBounds_toArray, List.set_cons_zero, List.set_cons_succ]
    apply wpEff2_cons
    focus
      intro B L wz hL hD hC
      refine .inl ⟨by rfl, ?_⟩
      obtain ⟨y_0, y_1, y_2, y_3, y_4, y_5, y_6, y_7, y_8, n_0, n_1, n_2, n_3, n_4, n_5, n_6, n_7, n_8⟩ := hS wz hC.nw
      unfold effAt
      go_simp
      exact ⟨rfl, hC.keep _ (by rfl)⟩
    simp only [Act.put, List.setIfInBounds_toArray, List.set_cons_zero, List.set_cons_succ]
    apply wpEff2_cons
    focus
      intro B L wz hL hD hC
      refine .inl ⟨by rfl, ?_⟩
      obtain ⟨y_0, y_1, y_2, y_3, y_4, y_5, y_6, y_7, y_8, n_0, n_1, n_2, n_3, n_4, n_5, n_6, n_7, n_8⟩ := hS wz hC.nw
      unfold effAt
      go_simp
      exact ⟨rfl, hC.keep _ (by rfl)⟩
    simp only [Act.put, List.setIfInBounds_toArray, List.set_cons_zero, List.set_cons_succ]
    apply wpEff2_cons
    focus
      intro B L wz hL hD hC
      refine .inl ⟨by rfl, ?_⟩
      obtain ⟨y_0, y_1, y_2, y_3, y_4, y_5, y_6, y_7, y_8, n_0, n_1, n_2, n_3, n_4, n_5, n_6, n_7, n_8⟩ := hS wz hC.nw
      unfold effAt
      go_simp
      exact ⟨rfl, hC.keep _ (by rfl)⟩
    simp only [Act.put, List.setIfInBounds_toArray, List.set_cons_zero, List.set_cons_succ]
    apply wpEff2_cons
    focus
      intro B L wz hL hD hC
      refine .inl ⟨by rfl, ?_⟩
      obtain ⟨y_0, y_1, y_2, y_3, y_4, y_5, y_6, y_7, y_8, n_0, n_1, n_2, n_3, n_4, n_5, n_6, n_7, n_8⟩ := hS wz hC.nw
      unfold effAt
      go_simp
      exact ⟨rfl, hC.keep _ (by rfl)⟩
    simp only [Act.put, List.setIfInBounds_toArray, List.set_cons_zero, List.set_cons_succ]
    apply wpEff2_cons
    focus
      intro B L wz hL hD hC
      refine .inl ⟨by rfl, ?_⟩
      obtain ⟨y_0, y_1, y_2, y_3, y_4, y_5, y_6, y_7, y_8, n_0, n_1, n_2, n_3, n_4, n_5, n_6, n_7, n_8⟩ := hS wz hC.nw
      unfold effAt
      go_simp
      exact ⟨rfl, hC.keep _ (by rfl)⟩
    simp only [Act.put, List.setIfInBounds_toArray, List.set_cons_zero, List.set_cons_succ]
    apply wpEff2_cons
    focus
      intro B L wz hL hD hC
      refine .inl ⟨by rfl, ?_⟩
      obtain ⟨y_0, y_1, y_2, y_3, y_4, y_5, y_6, y_7, y_8, n_0, n_1, n_2, n_3, n_4, n_5, n_6, n_7, n_8⟩ := hS wz hC.nw
      unfold effAt
      go_simp
      exact ⟨rfl, hC.keep _ (by rfl)⟩
    simp only [Act.put, List.setIfInBounds_toArray, List.set_cons_zero, List.set_cons_succ]
    apply wpEff2_cons
    focus
      intro B L wz hL hD hC
      have hnw := hC.nw
      refine .inl ⟨by rfl, ?_⟩
      unfold effAt
      go_simp
      refine (l22 wz hnw).mono ?_
      rintro e w9 ⟨rfl, q9⟩
      exact ⟨rfl, (hC.go hlast q9).keep _ (by rfl)⟩
    simp only [Act.put, List.setIfInBounds_toArray, List.set_cons_zero, List.set_cons_succ]
    apply wpEff2_cons
    focus
      intro B L wz hL hD hC
      refine .inl ⟨by rfl, ?_⟩
      obtain ⟨y_0, y_1, y_2, y_3, y_4, y_5, y_6, y_7, y_8, n_0, n_1, n_2, n_3, n_4, n_5, n_6, n_7, n_8⟩ := hS wz hC.nw
      unfold effAt
      go_simp
      exact ⟨rfl, hC.keep _ (by rfl)⟩
    simp only [Act.put, List.setIfInBounds_toArray, List.set_cons_zero, List.set_cons_succ]
    apply wpEff2_cons
    focus
      intro B L wz hL hD hC
      refine .inl ⟨by rfl, ?_⟩
      obtain ⟨y_0, y_1, y_2, y_3, y_4, y_5, y_6, y_7, y_8, n_0, n_1, n_2, n_3, n_4, n_5, n_6, n_7, n_8⟩ := hS wz hC.nw
      unfold effAt
      go_simp
      exact ⟨rfl, hC.keep _ (by rfl)⟩
    simp only [Act.put, List.setIfInBounds_toArray, List.set_cons_zero, List.set_cons_succ]
    apply wpEff2_cons
    focus
      intro B L wz hL hD hC
      refine .inl ⟨by rfl, ?_⟩
      obtain ⟨y_0, y_1, y_2, y_3, y_4, y_5, y_6, y_7, y_8, n_0, n_1, n_2, n_3, n_4, n_5, n_6, n_7, n_8⟩ := hS wz hC.nw
      unfold effAt
      go_simp
      exact ⟨rfl, hC.keep _ (by rfl)⟩
    simp only [Act.put, List.setIfInBounds_toArray, List.set_cons_zero, List.set_cons_succ]
    apply wpEff2_cons
    focus
      intro B L wz hL hD hC
      refine .inl ⟨by rfl, ?_⟩
      obtain ⟨y_0, y_1, y_2, y_3, y_4, y_5, y_6, y_7, y_8, n_0, n_1, n_2, n_3, n_4, n_5, n_6, n_7, n_8⟩ := hS wz hC.nw
      unfold effAt
      go_simp
      exact ⟨rfl, hC.keep _ (by rfl)⟩
    simp only [Act.put, List.setIfInBounds_toArray, List.set_cons_zero, List.set_cons_succ]
    apply wpEff2_cons
    focus
      intro B L wz hL hD hC
      refine .inl ⟨by rfl, ?_⟩
      obtain ⟨y_0, y_1, y_2, y_3, y_4, y_5, y_6, y_7, y_8, n_0, n_1, n_2, n_3, n_4, n_5, n_6, n_7, n_8⟩ := hS wz hC.nw
      unfold effAt
      go_simp
      exact ⟨rfl, hC.keep _ (by rfl)⟩
    simp only [Act.put, List.setIfInBounds_toArray, List.set_cons_zero, List.set_cons_succ]
    apply wpEff2_cons
    focus
      intro B L wz hL hD hC
      refine .inl ⟨by rfl, ?_⟩
      obtain ⟨y_0, y_1, y_2, y_3, y_4, y_5, y_6, y_7, y_8, n_0, n_1, n_2, n_3, n_4, n_5, n_6, n_7, n_8⟩ := hS wz hC.nw
      unfold effAt
      go_simp
      exact ⟨rfl, hC.keep _ (by rfl)⟩
    simp only [Act.put, List.setIfInBounds_toArray, List.set_cons_zero, List.set_cons_succ]
    apply wpEff2_cons
    focus
      intro B L wz hL hD hC
      have hnw := hC.nw
      refine .inl ⟨by rfl, ?_⟩
      unfold effAt
      go_simp
      refine (l29 wz hnw).mono ?_
      rintro e w9 ⟨rfl, q9⟩
      exact ⟨rfl, (hC.go hlast q9).keep _ (by rfl)⟩
    simp only [Act.put, List.setIfInBounds_toArray, List.set_cons_zero, List.set_cons_succ]
    apply wpEff2_cons
    focus
      intro B L wz hL hD hC
      refine .inl ⟨by rfl, ?_⟩
      obtain ⟨y_0, y_1, y_2, y_3, y_4, y_5, y_6, y_7, y_8, n_0, n_1, n_2, n_3, n_4, n_5, n_6, n_7, n_8⟩ := hS wz hC.nw
      unfold effAt
      go_simp
      exact ⟨rfl, hC.keep _ (by rfl)⟩
    simp only [Act.put, List.setIfInBounds_toArray, List.set_cons_zero, List.set_cons_succ]
    apply wpEff2_cons
    focus
      intro B L wz hL hD hC
      refine .inl ⟨by rfl, ?_⟩
      obtain ⟨y_0, y_1, y_2, y_3, y_4, y_5, y_6, y_7, y_8, n_0, n_1, n_2, n_3, n_4, n_5, n_6, n_7, n_8⟩ := hS wz hC.nw
      unfold effAt
      go_simp
      exact ⟨rfl, hC.keep _ (by rfl)⟩
    simp only [Act.put, List.setIfInBounds_toArray, List.set_cons_zero, List.set_cons_succ]
    apply wpEff2_cons
    focus
      intro B L wz hL hD hC
      have hnw := hC.nw
      refine .inl ⟨by rfl, ?_⟩
      unfold effAt
      go_simp
      refine (haw wz).mono ?_
      rintro e w9 ⟨rfl, q9⟩
      exact ⟨rfl, (hC.go hlast q9).keep _ (by rfl)⟩
    simp only [Act.put, List.setIfInBounds_toArray, List.set_cons_zero, List.set_cons_succ]
    apply wpEff2_cons
    focus
      intro B L wz hL hD hC
      refine .inl ⟨by rfl, ?_⟩
      obtain ⟨y_0, y_1, y_2, y_3, y_4, y_5, y_6, y_7, y_8, n_0, n_1, n_2, n_3, n_4, n_5, n_6, n_7, n_8⟩ := hS wz hC.nw
      unfold effAt
      go_simp
      exact ⟨rfl, hC.keep _ (by rfl)⟩
    simp only [Act.put, List.setIfInBounds_toArray, List.set_cons_zero, List.set_cons_succ]
    apply wpEff2_cons
    focus
      intro B L wz hL hD hC
      refine .inl ⟨by rfl, ?_⟩
      obtain ⟨y_0, y_1, y_2, y_3, y_4, y_5, y_6, y_7, y_8, n_0, n_1, n_2, n_3, n_4, n_5, n_6, n_7, n_8⟩ := hS wz hC.nw
      unfold effAt
      go_simp
      exact ⟨rfl, hC.keep _ (by rfl)⟩
    simp only [Act.put, List.setIfInBounds_toArray, List.set_cons_zero, List.set_cons_succ]
    refine wpEff2_nil fun B wz hC5 => ?_
    have hnw := hC5.nw
    go_wp2_with fail
    go_ret
    exact ⟨rfl, HQ.out.tr hnw⟩
end Go.Proofs.YtkjnlhidnkbelaaGreatDoor
