/- Lemmas of the walks: KitRd, OdSU, OgB. (Laid together by shake.py.) -/
import Derived.Test.YtkjnlhidnkbelaaGreatDoorOz02
import Derived.Test.YtkjnlhidnkbelaaGreatDoorOz03
import Derived.Test.YtkjnlhidnkbelaaGreatDoorOz04
import Derived.Test.YtkjnlhidnkbelaaGreatDoorOz09
import Derived.Test.YtkjnlhidnkbelaaGreatDoorOz20
import Derived.Test.YtkjnlhidnkbelaaGreatDoorOz21
set_option linter.unusedVariables false
set_option linter.unusedSimpArgs false
namespace Go.Proofs.YtkjnlhidnkbelaaGreatDoor
open Go Go.RowKit

/-- The mark of a place in a list of texts. -/
def mkT (k i : Nat) : List UInt8 := [35, UInt8.ofNat k, UInt8.ofNat (k / 256), UInt8.ofNat (k / 65536), 47, UInt8.ofNat i, UInt8.ofNat (i / 256), UInt8.ofNat (i / 65536)]
/-- The mark of a place in a list of reads. -/
def mkR (k i : Nat) : Rdg := (mkT k i, false, [])
set_option maxRecDepth 100000 in
theorem markText_any (w : World) (k i : Nat) :
    Calls Tryz.prog 108 #[.int .i64 k, .int .i64 i] w fun e w' => e = .returned (StrV (mkT k i)) ∧ Nw w w' := by
  have hcs : (#[.int .u8 35, .int .u8 ((k : Int) % 256), .int .u8 ((k : Int) / 256 % 256), .int .u8 ((k : Int) / 65536 % 256), .int .u8 47, .int .u8 ((i : Int) % 256), .int .u8 ((i : Int) / 256 % 256), .int .u8 ((i : Int) / 65536 % 256)] : Array Value) = ((mkT k i).map B8).toArray := by
    have e : ∀ n : Nat, ((UInt8.ofNat n).toNat : Int) = (n : Int) % 256 := fun n => by rw [UInt8.toNat_ofNat']; omega
    simp only [mkT, List.map_cons, List.map_nil, B8, e]
    rfl
  have hconv : ∀ j : Nat, (convert 22 9 (.slice (some ⟨w.heap.size, 0, none⟩) 8 8)).run Tryz.prog (w.alloc (.cells #[.int .u8 35, .int .u8 ((k : Int) % 256), .int .u8 ((k : Int) / 256 % 256), .int .u8 ((k : Int) / 65536 % 256), .int .u8 47, .int .u8 ((i : Int) % 256), .int .u8 ((i : Int) / 256 % 256), .int .u8 ((i : Int) / 65536 % 256)] 5)) = .ok (StrV (mkT k i)) (w.alloc (.cells #[.int .u8 35, .int .u8 ((k : Int) % 256), .int .u8 ((k : Int) / 256 % 256), .int .u8 ((k : Int) / 65536 % 256), .int .u8 47, .int .u8 ((i : Int) % 256), .int .u8 ((i : Int) / 256 % 256), .int .u8 ((i : Int) / 65536 % 256)] 5)) := fun j => by
    rw [hcs]
    exact run_text_sl _ (· = w.heap.size) (some ⟨w.heap.size, 0, none⟩) 8 (mkT k i) (sl_new w 5 ((mkT k i).map B8) _ rfl)
  have hconv := hconv 0
  clear hcs
  go_enter Tryz.func108, Tryz.ntmps108
  go_wp2_with fail
  go_ret
  exact ⟨rfl, (Fr.refl (fun _ => False) w).alloc _⟩
theorem rd_one (x : List UInt8) (b : Bool) (z : List UInt8) : (#[StrV x, .bool b, StrV z] : Array Value).all (·.oneCell') = true := by
  rw [List.all_toArray]
  simp only [List.all_cons, List.all_nil]
  rfl
set_option maxRecDepth 100000 in
theorem markRead_any (w : World) (k i : Nat) :
    Calls Tryz.prog 72 #[.int .i64 k, .int .i64 i] w fun e w' => e = .returned (.agg #[StrV (mkT k i), .bool false, .string ⟨#[]⟩]) ∧ Nw w w' := by
  have hone := rd_one (mkT k i) false []
  have hT := Blk.new w 93 #[.string ⟨#[]⟩, .bool false, .string ⟨#[]⟩]
  have hmk := markText_any (w.alloc (.cells #[.string ⟨#[]⟩, .bool false, .string ⟨#[]⟩] 93)) k i
  go_enter Tryz.func72, Tryz.ntmps72
  go_wp2_with fail
  refine hmk.mono ?_
  rintro e w1 ⟨rfl, q1⟩
  have q01 : Nw w w1 := ((Fr.refl (fun _ => False) w).alloc _).tr q1
  have hT1 := hT.fr q1 (fun h => h)
  have hE := hT1.row #[StrV (mkT k i), .bool false, StrV []]
  go_wp2_with (refine wpList_store_row rfl 93 _ _ rfl w.heap.size _ rfl rfl 93 _ hT1 rd_size rfl hone ?_)
  refine bodyPost_ret (v := .agg #[StrV (mkT k i), .bool false, StrV []]) ?_ rfl ?_
  · exact results_cell_row rfl _ _ w.heap.size 93 _ (0, 0) _ rfl hE Tryz.underlying93 rfl rd_size
  exact ⟨rfl, q01.setRow (.inr (Nat.le_refl _)) _⟩

/-- The marks behind. -/
def behindR : List Rdg := (List.range 12).map (mkR 1)
/-- What is lent: reads with marks in their spare room. -/
def LentRd (w : World) (g : Nat) (l : List Rdg) : Prop := Own w 93 3 (some ⟨g, 0, none⟩) (l.length + 12) (l.length + 12) (rdgsCells (l ++ behindR))
def LentRdRel (w : World) (g : Nat) (l : List Rdg) (v i : Value) (wr : World) : Prop :=
  ∃ k : Nat, k ≤ 12 ∧ i = .int .i64 k ∧ v = .slice (some ⟨g, 0, none⟩) (l.length + k) (l.length + 12) ∧ Own wr 93 3 (some ⟨g, 0, none⟩) (l.length + k) (l.length + 12) (rdgsCells (l ++ (List.range k).map (mkR 1))) ∧ Nw w wr
theorem under_reads : Tryz.prog.underlying 27 = some (.slice (Tryz.prog.elem 27)) := by kernel_rfl
theorem size_reads (w : World) : (sizeOf (Tryz.prog.elem 27)).run Tryz.prog w = .ok 3 w := by kernel_rfl
set_option maxRecDepth 100000 in
set_option maxHeartbeats 1000000 in
theorem lent_reads (w : World) (F : Nat → Prop) (A : Option Addr) (c : Nat) (l : List Rdg) (h : Sl w F A (rdgsCells l)) (hsz : l.length ≤ 1000000000) :
    Calls Tryz.prog 25 #[.slice A l.length c] w fun e w' => ∃ g, e = .returned (.slice (some ⟨g, 0, none⟩) l.length (l.length + 12)) ∧ LentRd w' g l ∧ Nw w w' ∧ w.heap.size ≤ g := by
  have hlen := rdgsCells_len l
  obtain ⟨n, hn⟩ : ∃ n, n = l.length := ⟨_, rfl⟩
  rw [← hn] at hsz hlen ⊢
  have HN := Lib.hid hn
  clear hn
  go_enter Tryz.func25, Tryz.ntmps25
  go_wp2_with (first | (at_make; refine wl_make0 rfl _ _ _ rfl 40 (.agg #[.string ⟨#[]⟩, .bool false, .string ⟨#[]⟩]) Tryz.underlying27 info_read .i64 .i64 ((n : Int) + 12) (n + 12) rfl rfl (by omega) (by omega) (by unfold maxLen; omega) ?_; intro w1 ho1 hq1; have hs1 := h.fr hq1 (fun _ _ h => h)) | (at_builtin; refine wl_append2 rfl _ _ _ rfl 40 (.agg #[.string ⟨#[]⟩, .bool false, .string ⟨#[]⟩]) Tryz.underlying27 info_read rfl (by decide) rfl ho1 rfl hs1 hlen (rdgsCells_one l) (by omega) (by unfold maxLen; omega) ?_; intro A' cap' w2 hap))
  rcases hap with ⟨ho2, _, ⟨_, rfl, rfl, hf2⟩ | ⟨hlt, _⟩⟩
  rotate_left
  · omega
  simp only [Nat.zero_add, List.nil_append] at ho2 ⊢
  have hq2 : Nw w w2 := hq1.new hf2 (fun k hk => by rw [(inA_some _ _).1 hk]; exact Nat.le_refl _)
  clear hf2 ho1 hs1 hq1
  go_wp2_with fail
  go_loopw [3, 4] (fun v i wr => LentRdRel w w.heap.size l v i wr) (fun _ i _ => 12 - (intOf i).toNat)
  case atStart => exact ⟨0, by omega, rfl, by rw [← HN.out]; rfl, by rw [← HN.out]; simpa using ho2, hq2⟩
  case round =>
    obtain ⟨k, hk, rfl, rfl, ho, hq⟩ := hrel
    rw [← HN.out] at ho ⊢
    by_cases hlt : k < 12
    · have hmk := fun w1 => markRead_any w1 1 k
      have HMK := Lib.hid hmk
      clear hmk
      go_wp2_with (first | (go_at_call 72; refine (HMK.out _).mono ?_; rintro e w3 ⟨rfl, q3⟩; have ho3 := ho.fr q3 (fun _ _ h => h); have hnl := sl_new w3 93 (rdgCells (mkR 1 k)) _ rfl) | (at_builtin; refine wl_append2 rfl _ _ _ rfl 40 (.agg #[.string ⟨#[]⟩, .bool false, .string ⟨#[]⟩]) Tryz.underlying27 info_read rfl (by decide) rfl (ho3.alloc _) rfl hnl rfl (by simp [rdgCells, mkR, Value.oneCell']) (by omega) (by unfold maxLen; omega) ?_; intro A' cap' w2 hap))
      rcases hap with ⟨ho4, _, ⟨_, rfl, rfl, hf3⟩ | ⟨hlt, _⟩⟩
      rotate_left
      · omega
      have hq3 : Nw w w2 := ((hq.tr q3).alloc _).new hf3 (fun k hk => by rw [(inA_some _ _).1 hk]; exact Nat.le_refl _)
      go_wp2_with fail
      go_roundw
      case rel =>
        refine ⟨k + 1, by omega, by go_num, by rw [← HN.out]; simp [Nat.add_assoc], ?_, hq3⟩
        rw [List.range_succ, ← HN.out]
        have e : n + (k + 1) = n + k + 1 := by omega
        rw [e, List.map_append, ← List.append_assoc, rdgsCells_append]
        exact ho4
      case measure => simp [intOf]; omega
    · have hk12 : k = 12 := by omega
      subst hk12
      have hs := slice_h (P := Tryz.prog) 27 under_reads 3 size_reads (some ⟨w.heap.size, 0, none⟩) (n + 12) (n + 12) n (by omega)
      go_wp2_with fail
      go_ret
      exact ⟨_, rfl, by unfold LentRd; rw [← HN.out]; exact ho, hq, Nat.le_refl _⟩
theorem LentRd.fr {w w' : World} {S : Nat → Prop} {g : Nat} {l : List Rdg} (h : LentRd w g l) (hf : Fr S w w') (hn : ¬ S g) : LentRd w' g l := Own.fr h hf (fun k hk => by rw [(inA_some _ _).1 hk]; exact hn)
theorem LentRd.row {w : World} {g : Nat} {l : List Rdg} (h : LentRd w g l) : Sl w (· = g) (some ⟨g, 0, none⟩) (rdgsCells l) := by
  have h1 := (Own.sl h).pre (k := l.length * 3)
  rw [rdgsCells_append, List.take_left' (rdgsCells_len l)] at h1
  exact h1.mono fun k hk _ => (inA_some _ _).1 hk
theorem behindR_len : behindR.length = 12 := by simp [behindR]
def KeptRdRel (w : World) (n : Nat) (i : Value) (wr : World) : Prop := ∃ k : Nat, k ≤ n + 12 ∧ i = .int .i64 k ∧ Nw w wr
set_option maxRecDepth 100000 in
set_option maxHeartbeats 2000000 in
theorem kept_reads (w : World) (F : Nat → Prop) (g : Nat) (A2 : Option Addr) (c2 : Nat) (l : List Rdg) (h1 : LentRd w g l) (h2 : Sl w F A2 (rdgsCells l)) (hsz : l.length ≤ 1000000000) :
    Calls Tryz.prog 30 #[.slice (some ⟨g, 0, none⟩) l.length (l.length + 12), .slice A2 l.length c2] w fun e w' => e = .returned (.bool true) ∧ Nw w w' := by
  have hs := slice_h (P := Tryz.prog) 27 under_reads 3 size_reads (some ⟨g, 0, none⟩) l.length (l.length + 12) (l.length + 12) (Nat.le_refl _)
  obtain ⟨n, hn⟩ : ∃ n, n = l.length := ⟨_, rfl⟩
  rw [← hn] at hsz hs ⊢
  have HN := Lib.hid hn
  clear hn
  have e12 : (((n + 12 : Nat)) : Int) = (n : Int) + 12 := by omega
  go_enter Tryz.func30, Tryz.ntmps30
  go_wp2_with fail
  go_loopw [6] (fun i wr => KeptRdRel w n i wr) (fun i _ => n + 12 - (intOf i).toNat)
  case atStart => exact ⟨0, by omega, rfl, Fr.refl _ _⟩
  case round =>
    obtain ⟨k, hk, rfl, hq⟩ := hrel
    by_cases hlt : k < n + 12
    · have hl12 : k < (l ++ behindR).length := by rw [List.length_append, behindR_len, ← HN.out]; exact hlt
      obtain ⟨b1, o1, hbo, _, p0, p1, p2⟩ := (Own.sl (h1.fr hq (fun h => h))).rdg hl12
      injection hbo with hbo
      injection hbo with e1 e2 _
      subst e1
      subst e2
      have hi0 : (k : Int) < (n : Int) + 12 := by omega
      by_cases hlt2 : k < n
      · have hkl : k < l.length := by rw [← HN.out]; exact hlt2
        obtain ⟨b2, o2, rfl, _, r0, r1, r2⟩ := (h2.fr hq (fun _ _ h => h)).rdg hkl
        rw [List.getElem_append_left hkl] at p0 p1 p2
        obtain ⟨x, hx⟩ : ∃ x, l[k] = x := ⟨_, rfl⟩
        rw [hx] at p0 p1 p2 r0 r1 r2
        clear hx
        have hi1 : (k : Int) < (n : Int) := by omega
        have hi2 : decide ((n : Int) ≤ (k : Int)) = false := by simp; omega
        have hi3 : decide (n ≤ k) = false := by simp; omega
        have hi4 : decide ((k : Int) < (n : Int)) = true := decide_eq_true hi1
        have hi5 : decide (k < n) = true := decide_eq_true hlt2
        have heq := fun (m : Later wr) => read_eql m.at_ x x
        simp only [decide_true] at heq
        have P0 := fun (m : Later wr) => m.cell p0
        have P1 := fun (m : Later wr) => m.cell p1
        have P2 := fun (m : Later wr) => m.cell p2
        have R0 := fun (m : Later wr) => m.cell r0
        have R1 := fun (m : Later wr) => m.cell r1
        have R2 := fun (m : Later wr) => m.cell r2
        simp only [Nat.zero_add] at P0 P1 P2
        clear p0 p1 p2 r0 r1 r2
        go_wp2_with fail
        refine wp_region_later (by kernel_rfl) (by kernel_rfl) ?_
        repeat (go_big_quiet_step (fail))
        refine wpQuiet_later fun w5 q5 => ?_
        go_wp2_with fail
        go_roundw
        case rel => exact ⟨k + 1, by omega, by go_num, hq.tr q5⟩
        case measure => simp [intOf]; omega
      · rw [List.getElem_append_right (by rw [← HN.out]; omega)] at p0 p1 p2
        have hv : behindR[k - l.length]'(by rw [behindR_len, ← HN.out]; omega) = mkR 1 (k - n) := by simp [behindR, ← HN.out]
        rw [hv] at p0 p1 p2
        clear hv
        have hi1 : decide ((k : Int) < (n : Int)) = false := by simp; omega
        have hi3 : decide (k < n) = false := by simp; omega
        have hi2 : (n : Int) ≤ (k : Int) := by omega
        have hi4 : decide ((n : Int) ≤ (k : Int)) = true := decide_eq_true hi2
        have hi5 : decide (n ≤ k) = true := decide_eq_true (by omega)
        obtain ⟨j, hj⟩ : ∃ j, j = k - n := ⟨_, rfl⟩
        rw [← hj] at p0 p1 p2
        have hsub : wrap64 ((k : Int) - (n : Int)) = (j : Int) := by unfold wrap64; omega
        have hsub2 : IntKind.i64.wrap ((k : Int) - (n : Int)) = (j : Int) := by rw [IntWalk.i64_in _ (by omega)]; omega
        have hmk := fun (m : Later wr) => markRead_any m.at_ 1 j
        have heq : ∀ (m : Later wr), (binOp .eql 93 (.agg #[StrV (mkT 1 j), .bool false, .string ⟨#[]⟩]) (.agg #[StrV (mkT 1 j), .bool false, .string ⟨#[]⟩])).run Tryz.prog m.at_ = .ok (.bool true) m.at_ := fun m => by
          have := read_eql m.at_ (mkR 1 j) (mkR 1 j)
          simp only [decide_true] at this
          exact this
        have p0 : wr.cell? _ = some (StrV (mkT 1 j)) := p0
        have p1 : wr.cell? _ = some (.bool false) := p1
        have p2 : wr.cell? _ = some (.string ⟨#[]⟩) := p2
        have hju : ((j : Nat) : Int) = (k : Int) - (n : Int) := by omega
        rw [hju] at hmk
        have P0 := fun (m : Later wr) => m.cell p0
        have P1 := fun (m : Later wr) => m.cell p1
        have P2 := fun (m : Later wr) => m.cell p2
        simp only [Nat.zero_add] at P0 P1 P2
        have HMK := Lib.hid hmk
        clear p0 p1 p2 hmk hju hj hsub hsub2
        have hsub2 : IntKind.i64.wrap ((k : Int) - (n : Int)) = (k : Int) - (n : Int) := IntWalk.i64_in _ (by omega)
        go_wp2_with fail
        refine wp_region_later (by kernel_rfl) (by kernel_rfl) ?_
        repeat (go_big_quiet_step ((go_at_call 72; exact Later.call (HMK.out _))))
        refine wpQuiet_later fun w5 q5 => ?_
        go_wp2_with fail
        go_roundw
        case rel => exact ⟨k + 1, by omega, by go_num, hq.tr q5⟩
        case measure => simp [intOf]; omega
    · go_wp2_with fail
      go_ret
      exact ⟨rfl, hq⟩
end Go.Proofs.YtkjnlhidnkbelaaGreatDoor

namespace Go.Proofs.YtkjnlhidnkbelaaGreatDoor
open Go Go.RowKit
set_option maxRecDepth 100000 in
set_option maxHeartbeats 8000000 in
theorem rsameAns_any (w : World) (F1 F2 : Nat → Prop) (x y : AnsF) (p q : Pl) (hx : AnsIn w F1 x p) (hy : AnsIn w F2 y q) (hzx : AnsSz x) :
    Calls Tryz.prog 21 #[.agg (afA x p), .agg (afA y q)] w fun e w' => e = .returned (.bool (decide (x = y))) ∧ Nw w w' := by
  rw [ansF_eq x y]
  obtain ⟨W0, hW0⟩ : ∃ W0, W0 = w.alloc (.cells (afA x p) 60) := ⟨_, rfl⟩
  have q0 : Nw w W0 := by rw [hW0]; exact (Fr.refl (fun _ => False) w).alloc _
  have x0 : Blk W0 w.heap.size 60 (afA x p) := by rw [hW0]; exact Blk.new w _ _
  have hz0 : W0.heap.size = w.heap.size + 1 := by rw [hW0]; simp
  obtain ⟨W1, hW1⟩ : ∃ W1, W1 = W0.alloc (.cells (afA y q) 60) := ⟨_, rfl⟩
  have q1 : Nw W0 W1 := by rw [hW1]; exact (Fr.refl (fun _ => False) W0).alloc _
  have y1 : Blk W1 (w.heap.size + 1) 60 (afA y q) := by rw [hW1, ← hz0]; exact Blk.new W0 _ _
  have x1 := x0.fr q1 (fun h => h)
  have q01 := q0.tr q1
  obtain ⟨d1, e1⟩ : ∃ d, decide (x.err = y.err) = d := ⟨_, rfl⟩
  have z1 : (x.err == y.err) = d1 := (beq_int _ _).trans e1
  obtain ⟨d2, e2⟩ : ∃ d, decide (x.nm = y.nm) = d := ⟨_, rfl⟩
  have z2 := fun w => name_eql w x.nm y.nm
  simp only [e2] at z2
  obtain ⟨d3, e3⟩ : ∃ d, decide (x.is = y.is) = d := ⟨_, rfl⟩
  have z3 : (x.is == y.is) = d3 := (beq_bool _ _).trans e3
  obtain ⟨d4, e4⟩ : ∃ d, decide (x.commit = y.commit) = d := ⟨_, rfl⟩
  have z4 : (x.commit == y.commit) = d4 := (beq_bool _ _).trans e4
  obtain ⟨d5, e5⟩ : ∃ d, decide (x.reads = y.reads) = d := ⟨_, rfl⟩
  have z5 : ∀ w1, Nw W1 w1 → Calls Tryz.prog 68 #[.slice p.r x.reads.length p.cr, .slice q.r y.reads.length q.cr] w1 fun e w' => e = .returned (.bool d5) ∧ Nw w1 w' := fun w1 f => by
    rw [← e5]
    exact sameReads_any w1 F1 F2 p.r q.r p.cr q.cr x.reads y.reads (hx.reads.fr (q01.tr f) (fun _ _ h => h)) (hy.reads.fr (q01.tr f) (fun _ _ h => h)) hzx.reads.1
  obtain ⟨d6, e6⟩ : ∃ d, decide (x.scheme = y.scheme) = d := ⟨_, rfl⟩
  have z6 : (x.scheme == y.scheme) = d6 := (beq_int _ _).trans e6
  obtain ⟨d7, e7⟩ : ∃ d, decide (x.stage = y.stage) = d := ⟨_, rfl⟩
  have z7 : (x.stage == y.stage) = d7 := (beq_int _ _).trans e7
  obtain ⟨d8, e8⟩ : ∃ d, decide (x.bytes = y.bytes) = d := ⟨_, rfl⟩
  have z8 : ∀ w1, Nw W1 w1 → Calls Tryz.prog 23 #[.slice p.b x.bytes.length p.cb, .slice q.b y.bytes.length q.cb] w1 fun e w' => e = .returned (.bool d8) ∧ Nw w1 w' := fun w1 f => by
    rw [← e8]
    exact (same_u8 w1 F1 F2 p.b q.b p.cb q.cb x.bytes y.bytes (hx.bytes.fr (q01.tr f) (fun _ _ h => h)) (hy.bytes.fr (q01.tr f) (fun _ _ h => h)) (by have := hzx.bytes; omega)).mono fun e w' h => ⟨h.1, h.2.fr _⟩
  rw [e1, e2, e3, e4, e5, e6, e7, e8]
  have hS : ∀ w1, Nw W1 w1 → w1.cell? ⟨w.heap.size, 0, none⟩ = some (I64 x.err) ∧ w1.cell? ⟨w.heap.size, 1, none⟩ = some (I64 x.nm.1) ∧ w1.cell? ⟨w.heap.size, 2, none⟩ = some (I64 x.nm.2) ∧ w1.cell? ⟨w.heap.size, 3, none⟩ = some (.bool x.is) ∧ w1.cell? ⟨w.heap.size, 4, none⟩ = some (.bool x.commit) ∧ w1.cell? ⟨w.heap.size, 5, none⟩ = some (.slice p.r x.reads.length p.cr) ∧ w1.cell? ⟨w.heap.size, 6, none⟩ = some (I64 x.scheme) ∧ w1.cell? ⟨w.heap.size, 7, none⟩ = some (I64 x.stage) ∧ w1.cell? ⟨w.heap.size, 8, none⟩ = some (.slice p.b x.bytes.length p.cb) ∧ w1.cell? ⟨w.heap.size + 1, 0, none⟩ = some (I64 y.err) ∧ w1.cell? ⟨w.heap.size + 1, 1, none⟩ = some (I64 y.nm.1) ∧ w1.cell? ⟨w.heap.size + 1, 2, none⟩ = some (I64 y.nm.2) ∧ w1.cell? ⟨w.heap.size + 1, 3, none⟩ = some (.bool y.is) ∧ w1.cell? ⟨w.heap.size + 1, 4, none⟩ = some (.bool y.commit) ∧ w1.cell? ⟨w.heap.size + 1, 5, none⟩ = some (.slice q.r y.reads.length q.cr) ∧ w1.cell? ⟨w.heap.size + 1, 6, none⟩ = some (I64 y.scheme) ∧ w1.cell? ⟨w.heap.size + 1, 7, none⟩ = some (I64 y.stage) ∧ w1.cell? ⟨w.heap.size + 1, 8, none⟩ = some (.slice q.b y.bytes.length q.cb) := fun w1 f => by
    have a := x1.fr f (fun h => h)
    have b := y1.fr f (fun h => h)
    exact ⟨by simpa using a.cell 0, by simpa using a.cell 1, by simpa using a.cell 2, by simpa using a.cell 3, by simpa using a.cell 4, by simpa using a.cell 5, by simpa using a.cell 6, by simpa using a.cell 7, by simpa using a.cell 8, by simpa using b.cell 0, by simpa using b.cell 1, by simpa using b.cell 2, by simpa using b.cell 3, by simpa using b.cell 4, by simpa using b.cell 5, by simpa using b.cell 6, by simpa using b.cell 7, by simpa using b.cell 8⟩
  have HW0 := Lib.hid hW0
  have HW1 := Lib.hid hW1
  have hS1 := hS W1 (Fr.refl _ _)
  clear hW0 hW1 x0 y1 x1 hx hy e1 e2 e3 e4 e5 e6 e7 e8
  cases d1 with
  | false =>
    go_enter Tryz.func21, Tryz.ntmps21
    go_wp2_with fail
    go_ret
    exact ⟨by simp, by have h := q01; rw [HW1.out, HW0.out] at h; exact h⟩
  | true =>
    cases d2 with
    | false =>
      go_enter Tryz.func21, Tryz.ntmps21
      go_wp2_with fail
      go_ret
      exact ⟨by simp, by have h := q01; rw [HW1.out, HW0.out] at h; exact h⟩
    | true =>
      cases d3 with
      | false =>
        go_enter Tryz.func21, Tryz.ntmps21
        go_wp2_with fail
        go_ret
        exact ⟨by simp, by have h := q01; rw [HW1.out, HW0.out] at h; exact h⟩
      | true =>
        cases d4 with
        | false =>
          go_enter Tryz.func21, Tryz.ntmps21
          go_wp2_with fail
          go_ret
          exact ⟨by simp, by have h := q01; rw [HW1.out, HW0.out] at h; exact h⟩
        | true =>
          cases d5 with
          | false =>
            go_enter Tryz.func21, Tryz.ntmps21
            go_wp2_with fail
            rw [← HW0.out, ← HW1.out]
            refine (z5 _ (Fr.refl _ W1)).mono ?_
            rintro e v1 ⟨rfl, r1⟩
            have Q1 := (Fr.refl (fun _ => False) W1).tr r1
            go_wp2_with fail
            go_ret
            exact ⟨by simp, q01.tr Q1⟩
          | true =>
            cases d6 with
            | false =>
              go_enter Tryz.func21, Tryz.ntmps21
              go_wp2_with fail
              rw [← HW0.out, ← HW1.out]
              refine (z5 _ (Fr.refl _ W1)).mono ?_
              rintro e v1 ⟨rfl, r1⟩
              have Q1 := (Fr.refl (fun _ => False) W1).tr r1
              obtain ⟨k0, k1, k2, k3, k4, k5, k6, k7, k8, k9, k10, k11, k12, k13, k14, k15, k16, k17⟩ := hS v1 Q1
              go_wp2_with fail
              go_ret
              exact ⟨by simp, q01.tr Q1⟩
            | true =>
              cases d7 with
              | false =>
                go_enter Tryz.func21, Tryz.ntmps21
                go_wp2_with fail
                rw [← HW0.out, ← HW1.out]
                refine (z5 _ (Fr.refl _ W1)).mono ?_
                rintro e v1 ⟨rfl, r1⟩
                have Q1 := (Fr.refl (fun _ => False) W1).tr r1
                obtain ⟨k0, k1, k2, k3, k4, k5, k6, k7, k8, k9, k10, k11, k12, k13, k14, k15, k16, k17⟩ := hS v1 Q1
                go_wp2_with fail
                go_ret
                exact ⟨by simp, q01.tr Q1⟩
              | true =>
                cases d8 with
                | false =>
                  go_enter Tryz.func21, Tryz.ntmps21
                  go_wp2_with fail
                  rw [← HW0.out, ← HW1.out]
                  refine (z5 _ (Fr.refl _ W1)).mono ?_
                  rintro e v1 ⟨rfl, r1⟩
                  have Q1 := (Fr.refl (fun _ => False) W1).tr r1
                  obtain ⟨k0, k1, k2, k3, k4, k5, k6, k7, k8, k9, k10, k11, k12, k13, k14, k15, k16, k17⟩ := hS v1 Q1
                  go_wp2_with fail
                  refine (z8 _ Q1).mono ?_
                  rintro e v2 ⟨rfl, r2⟩
                  have Q2 := Q1.tr r2
                  go_wp2_with fail
                  go_ret
                  exact ⟨by simp, q01.tr Q2⟩
                | true =>
                  go_enter Tryz.func21, Tryz.ntmps21
                  go_wp2_with fail
                  rw [← HW0.out, ← HW1.out]
                  refine (z5 _ (Fr.refl _ W1)).mono ?_
                  rintro e v1 ⟨rfl, r1⟩
                  have Q1 := (Fr.refl (fun _ => False) W1).tr r1
                  obtain ⟨k0, k1, k2, k3, k4, k5, k6, k7, k8, k9, k10, k11, k12, k13, k14, k15, k16, k17⟩ := hS v1 Q1
                  go_wp2_with fail
                  refine (z8 _ Q1).mono ?_
                  rintro e v2 ⟨rfl, r2⟩
                  have Q2 := Q1.tr r2
                  go_wp2_with fail
                  go_ret
                  exact ⟨by simp, q01.tr Q2⟩
end Go.Proofs.YtkjnlhidnkbelaaGreatDoor

namespace Go.Proofs.YtkjnlhidnkbelaaGreatDoor
open Go Go.RowKit
set_option linter.unusedVariables false
set_option linter.unusedSimpArgs false
theorem RfC.go {W w w' : World} {fs : List Fact} {L : Nat → Bool} {B : Bk} (h : RfC W fs L B w) (hlast : Lasts fs) (q : Nw w w') : RfC W fs L B w' :=
  ⟨h.1.tr q, fun f hf hl => hlast f hf _ _ _ (h.2 f hf hl) q⟩
/-- What comes out: bytes, error. -/
def putOut (r : Option (List UInt8)) : List UInt8 × Int := match r with
  | none => ([], 2)
  | some b => (b, 0)
theorem PutTo.out {w w' : World} {r : Option (List UInt8)} {e : Ending} (h : PutTo w r e w') : ∃ A c, e = .returned (.tuple #[.slice A (putOut r).1.length c, .int .i64 (putOut r).2]) ∧ Own w' 5 1 A (putOut r).1.length c ((putOut r).1.map B8) ∧ Nw w w' ∧ ∀ k, inA A k → w.heap.size ≤ k := by
  cases r with
  | none => exact ⟨none, 0, h.1, Own.nil _ _ _, h.2, fun k hk => (inA_none k hk).elim⟩
  | some b => exact h
theorem RPutTo.out {w w' : World} {r : Option (List UInt8)} {e : Ending} (h : RPutTo w r e w') : ∃ A c, e = .returned (.tuple #[.slice A (putOut r).1.length c, .int .i64 (putOut r).2]) ∧ Nw w w' ∧ Sl w' (fun j => w.heap.size ≤ j) A ((putOut r).1.map B8) := by
  cases r with
  | none => exact ⟨none, 0, h.1, h.2, .inl rfl⟩
  | some b =>
    obtain ⟨b, h1, h2, h3, _⟩ := h
    exact ⟨b.2, b.1, h1, h2, h3⟩
theorem ansB_most {x : AnsF} (h : ansOk x = true) : (ansB x).length ≤ 1000000 := by
  have hs := ansOk_sm h
  have h1 := encAll_le [x.err, x.nm.1, x.nm.2]
  have h2 := encAll_le [x.scheme, x.stage]
  have h3 := rdgs_most x.reads (rdgOks_sm hs.reads.2)
  have h4 := enc_len x.reads.length
  have h5 := rowB_most x.bytes
  have h6 := hs.bytes
  have h7 := hs.reads.1
  unfold ansB
  simp only [List.length_append, List.length_cons, List.length_nil, flagB] at *
  omega
theorem Lent.row {w : World} {A : Option Addr} {ys : List UInt8} (h : Lent w A ys) : Sl w (inA A) A (ys.map B8) := by
  have h1 := (Own.sl h).pre (k := ys.length)
  rw [List.map_append, List.take_left' (by simp)] at h1
  exact h1
theorem Lent.fr {w w' : World} {S : Nat → Prop} {A : Option Addr} {ys : List UInt8} (h : Lent w A ys) (hf : Fr S w w') (hn : ∀ k, inA A k → ¬ S k) : Lent w' A ys := Own.fr h hf hn
set_option maxRecDepth 100000 in
set_option maxHeartbeats 8000000 in
theorem tells_walk (w : World) (F : Nat → Prop) (x : AnsF) (p : Pl) (hi : AnsIn w F x p) (hrz : RdgSz x.reads) :
    Calls Tryz.prog 6 #[.agg (afA x p)] w fun e w' => e = .returned (.bool true) ∧ Nw w w' := by
  have haw := fun w => awake22_any w
  obtain ⟨W0, hW0⟩ : ∃ W0, W0 = w.alloc (.cells (afA x p) 41) := ⟨_, rfl⟩
  have q0 : Nw w W0 := by rw [hW0]; exact (Fr.refl (fun _ => False) w).alloc _
  have x0 : Blk W0 w.heap.size 41 (afA x p) := by rw [hW0]; exact Blk.new w _ _
  have hgr := great22_any W0 (fun _ => False) none p.r p.b 0 x.reads.length p.cr x.bytes.length p.cb [] [] [] (.inl rfl) (Nat.zero_le _) (fun a h => by cases h) (Nat.zero_le _) (Nat.zero_le _)
  have hgr : Calls Tryz.prog 14 #[.slice none 0 0, .slice p.r x.reads.length p.cr, .slice p.b x.bytes.length p.cb, .agg #[.string ⟨#[]⟩, .string ⟨#[]⟩]] W0 fun e w' => Great22 W0 [] x.reads.length x.bytes.length 0 e w' := hgr
  have HW0 := Lib.hid hW0
  clear hW0
  go_enter Tryz.func6, Tryz.ntmps6
  go_upto_region 1 with (fail)
  rw [← HW0.out]
  have c5 : W0.cell? ⟨w.heap.size, 5, none⟩ = some (.slice p.r x.reads.length p.cr) := by simpa using x0.cell 5
  have c8 : W0.cell? ⟨w.heap.size, 8, none⟩ = some (.slice p.b x.bytes.length p.cb) := by simpa using x0.cell 8
  go_wp2_with fail
  refine hgr.mono ?_
  rintro e w1 ⟨b, rfl, hb, q1⟩
  have Q1 := q0.tr q1
  have HB := Lib.hid hb
  clear hb hgr c5 c8
  cases b with
  | true =>
    go_wp2_with fail
    refine (haw _).mono ?_
    rintro e w2 ⟨rfl, q2⟩
    go_wp2_with fail
    go_ret
    exact ⟨rfl, Q1.tr q2⟩
  | false =>
    obtain ⟨_, hrl, hbl, _⟩ := HB.out rfl
    have hsz : AnsSz x := ⟨⟨by omega, hrz⟩, by omega⟩
    have x1 := x0.fr q1 (fun h => h)
    obtain ⟨W3, hW3⟩ : ∃ W3, W3 = w1.alloc (.cells (afA x p) 41) := ⟨_, rfl⟩
    have q3 : Nw w1 W3 := by rw [hW3]; exact (Fr.refl (fun _ => False) w1).alloc _
    obtain ⟨g, hg⟩ : ∃ g, g = w1.heap.size := ⟨_, rfl⟩
    have n3 : Blk W3 g 41 (afA x p) := by rw [hW3, hg]; exact Blk.new w1 _ _
    have hgw : w.heap.size < g := by have := x1.lt; omega
    have x3 := x1.fr q3 (fun h => h)
    have Q3 := Q1.tr q3
    have d5 : W3.cell? ⟨w.heap.size, 5, none⟩ = some (.slice p.r x.reads.length p.cr) := by simpa using x3.cell 5
    have hlr := lent_reads W3 F p.r p.cr x.reads (hi.reads.fr Q3 (fun _ _ h => h)) (by omega)
    have HW3 := Lib.hid hW3
    have HG := Lib.hid hg
    clear hW3
    go_upto_region 3 with (fail)
    go_upto_region 4 with (refine wpList_load_row rfl 41 _ rfl w.heap.size rfl 41 _ (0, 0) _ x1 Tryz.underlying41 rfl ans_size ?_)
    rw [← HW3.out, ← HG.out]
    clear hg
    go_upto_region 5 with (go_at_call 25; refine hlr.mono ?_; rintro e w4 ⟨gr, rfl, lr4, q4, hgr4⟩; have n4 := n3.fr q4 (fun h => h); have e5 : w4.cell? ⟨g, 5, none⟩ = some (.slice p.r x.reads.length p.cr) := (by simpa using n4.cell 5); have f5 := n4.frozen 5)
    obtain ⟨W5, hW5⟩ : ∃ W5, W5 = w4.setCell ⟨g, 5, none⟩ (.slice (some ⟨gr, 0, none⟩) x.reads.length (x.reads.length + 12)) := ⟨_, rfl⟩
    obtain ⟨p1, hp1⟩ : ∃ p1 : Pl, p1 = { p with r := some ⟨gr, 0, none⟩, cr := x.reads.length + 12 } := ⟨_, rfl⟩
    have n5 : Blk W5 g 41 (afA x p1) := by rw [hW5, hp1]; exact n4.set_ 5 _
    have s5 : Fr (· = g) w4 W5 := by rw [hW5]; exact (Fr.refl _ w4).set1 _ _
    have x5 := (x3.fr q4 (fun h => h)).fr s5 (fun h => by omega)
    have hglt := n3.lt
    have lr5 := lr4.fr s5 (fun h => by omega)
    have Q5 : Nw w W5 := (Q3.tr q4).new s5 (fun k hk => by omega)
    have d8 : W5.cell? ⟨w.heap.size, 8, none⟩ = some (.slice p.b x.bytes.length p.cb) := by simpa using x5.cell 8
    have hlb := lent_u8 W5 F p.b p.cb x.bytes (hi.bytes.fr Q5 (fun _ _ h => h)) (by omega)
    have HW5 := Lib.hid hW5
    rw [← HW5.out]
    have e8p : p1.b = p.b ∧ p1.cb = p.cb := by rw [hp1]; exact ⟨rfl, rfl⟩
    clear hW5 n4 e5 f5
    go_upto_region 6 with (go_at_call 26; refine hlb.mono ?_; rintro e w6 ⟨gb, rfl, lb6, q6, hgb6⟩; have n6 := n5.fr q6 (fun h => h); have e8 : w6.cell? ⟨g, 8, none⟩ = some (.slice p1.b x.bytes.length p1.cb) := (by simpa using n6.cell 8); have f8 := n6.frozen 8)
    obtain ⟨W7, hW7⟩ : ∃ W7, W7 = w6.setCell ⟨g, 8, none⟩ (.slice (some ⟨gb, 0, none⟩) x.bytes.length (x.bytes.length + 12)) := ⟨_, rfl⟩
    obtain ⟨p2, hp2⟩ : ∃ p2 : Pl, p2 = { p1 with b := some ⟨gb, 0, none⟩, cb := x.bytes.length + 12 } := ⟨_, rfl⟩
    have n7 : Blk W7 g 41 (afA x p2) := by rw [hW7, hp2]; exact n6.set_ 8 _
    have s7 : Fr (· = g) w6 W7 := by rw [hW7]; exact (Fr.refl _ w6).set1 _ _
    have x7 := (x5.fr q6 (fun h => h)).fr s7 (fun h => by omega)
    have hg5 := n5.lt
    have lr7 := (lr5.fr q6 (fun h => h)).fr s7 (fun h => by omega)
    have lb7 := lb6.fr s7 (fun k hk h => by have h1 : k = gb := (inA_some _ _).1 hk; have h2 : k = g := h; omega)
    have Q7 : Nw w W7 := (Q5.tr q6).new s7 (fun k hk => by omega)
    have hp2r : p2.r = some ⟨gr, 0, none⟩ ∧ p2.cr = x.reads.length + 12 ∧ p2.b = some ⟨gb, 0, none⟩ ∧ p2.cb = x.bytes.length + 12 := by rw [hp2, hp1]; exact ⟨rfl, rfl, rfl, rfl⟩
    obtain ⟨r1, r2, r3, r4⟩ := hp2r
    have hin7 : ∀ w', Nw W7 w' → AnsIn w' (fun _ => True) x p2 := fun w' f => by
      refine ⟨?_, ?_, by rw [r2]; unfold maxLen; omega, by rw [r4]; unfold maxLen; omega⟩
      · rw [r1]; exact ((lr7.row).fr f (fun _ _ h => h)).mono (fun _ _ _ => trivial)
      · rw [r3]; exact ((Lent.row lb7).fr f (fun _ _ h => h)).mono (fun _ _ _ => trivial)
    have hix7 : ∀ w', Nw W7 w' → AnsIn w' F x p := fun w' f => hi.fr (Q7.tr f) (fun _ _ h => h)
    have HW7 := Lib.hid hW7
    rw [← HW7.out]
    clear hW7 n6 e8 f8 n5 x5 x3 x1 x0 n3 lr4 lr5 lb6 hlr hlb d5 d8 hp1 hp2
    have hp := oputAns_any W7 _ x p2 (hin7 W7 (Fr.refl _ _)) hsz
    obtain ⟨po, hpo⟩ : ∃ po, (if ansOk x = true then some (ansB x) else none) = po := ⟨_, rfl⟩
    have hxp := fun w' (f : Nw W7 w') => xputAns_any w' F x p (hix7 w' f) hsz
    rw [hpo] at hp
    simp only [hpo] at hxp
    have hpl : (putOut po).1.length ≤ 1000000 := by
      rw [← hpo]
      by_cases hok : ansOk x = true
      · rw [if_pos hok]; exact ansB_most hok
      · rw [if_neg hok]; exact Nat.zero_le _
    clear hpo
    obtain ⟨bs, hbs⟩ : ∃ bs, (putOut po).1 = bs := ⟨_, rfl⟩
    obtain ⟨er, her⟩ : ∃ er, (putOut po).2 = er := ⟨_, rfl⟩
    obtain ⟨n, hn⟩ : ∃ n, bs.length = n := ⟨_, rfl⟩
    have hp2 : Calls Tryz.prog 15 #[.agg (afA x p2)] W7 fun e w' => ∃ A c, e = .returned (.tuple #[.slice A n c, .int .i64 er]) ∧ Sl w' (inA A) A (bs.map B8) ∧ Nw W7 w' := hp.mono fun e w' h => by
      obtain ⟨A, c, h1, h2, h3, _⟩ := h.out
      rw [hbs, her, hn] at h1
      rw [hbs] at h2
      exact ⟨A, c, h1, h2.sl, h3⟩
    have hxp2 : ∀ w', Nw W7 w' → Calls Tryz.prog 33 #[.agg (afA x p)] w' fun e w'' => ∃ A c, e = .returned (.tuple #[.slice A n c, .int .i64 er]) ∧ Sl w'' (fun _ => True) A (bs.map B8) ∧ Nw w' w'' := fun w' f => (hxp w' f).mono fun e w'' h => by
      obtain ⟨A, c, h1, h2, h3⟩ := h.out
      rw [hbs, her, hn] at h1
      rw [hbs] at h3
      exact ⟨A, c, h1, h3.mono (fun _ _ _ => trivial), h2⟩
    rw [hbs, hn] at hpl
    have HNN := Lib.hid hn
    clear hp hxp hbs her hn
    have htd := fun w' => told22_any w' x p
    go_upto_region 7 with (first | (refine wpList_load_row rfl 41 _ rfl g rfl 41 _ (0, 0) _ n7 Tryz.underlying41 rfl ans_size ?_) | (go_at_call 15; refine hp2.mono ?_; rintro e w8 ⟨A, c, rfl, ho, q8⟩))
    have x8 := x7.fr q8 (fun h => h)
    go_upto_region 8 with (first | (refine wpList_load_row rfl 41 _ rfl w.heap.size rfl 41 _ (0, 0) _ x8 Tryz.underlying41 rfl ans_size ?_) | (go_at_call 22; refine (htd _).mono ?_; rintro e w9 ⟨rfl, q9⟩) | (go_at_call 33; refine (hxp2 w9 (q8.tr q9)).mono ?_; rintro e w10 ⟨A2, c2, rfl, hs2, q10⟩))
    have R0 : Nw W7 w10.drew := ((q8.tr q9).tr q10).drew
    have R : ∀ wz, Nw w10.drew wz → Nw W7 wz := fun wz f => R0.tr f
    have hS : ∀ wz, Nw w10.drew wz → wz.cell? ⟨w.heap.size, 0, none⟩ = some (I64 x.err) ∧ wz.cell? ⟨w.heap.size, 1, none⟩ = some (I64 x.nm.1) ∧ wz.cell? ⟨w.heap.size, 2, none⟩ = some (I64 x.nm.2) ∧ wz.cell? ⟨w.heap.size, 3, none⟩ = some (.bool x.is) ∧ wz.cell? ⟨w.heap.size, 4, none⟩ = some (.bool x.commit) ∧ wz.cell? ⟨w.heap.size, 5, none⟩ = some (.slice p.r x.reads.length p.cr) ∧ wz.cell? ⟨w.heap.size, 6, none⟩ = some (I64 x.scheme) ∧ wz.cell? ⟨w.heap.size, 7, none⟩ = some (I64 x.stage) ∧ wz.cell? ⟨w.heap.size, 8, none⟩ = some (.slice p.b x.bytes.length p.cb) ∧ wz.cell? ⟨g, 0, none⟩ = some (I64 x.err) ∧ wz.cell? ⟨g, 1, none⟩ = some (I64 x.nm.1) ∧ wz.cell? ⟨g, 2, none⟩ = some (I64 x.nm.2) ∧ wz.cell? ⟨g, 3, none⟩ = some (.bool x.is) ∧ wz.cell? ⟨g, 4, none⟩ = some (.bool x.commit) ∧ wz.cell? ⟨g, 5, none⟩ = some (.slice p2.r x.reads.length p2.cr) ∧ wz.cell? ⟨g, 6, none⟩ = some (I64 x.scheme) ∧ wz.cell? ⟨g, 7, none⟩ = some (I64 x.stage) ∧ wz.cell? ⟨g, 8, none⟩ = some (.slice p2.b x.bytes.length p2.cb) := fun wz f => by
      have a := x7.fr (R wz f) (fun h => h)
      have b := n7.fr (R wz f) (fun h => h)
      exact ⟨by simpa using a.cell 0, by simpa using a.cell 1, by simpa using a.cell 2, by simpa using a.cell 3, by simpa using a.cell 4, by simpa using a.cell 5, by simpa using a.cell 6, by simpa using a.cell 7, by simpa using a.cell 8, by simpa using b.cell 0, by simpa using b.cell 1, by simpa using b.cell 2, by simpa using b.cell 3, by simpa using b.cell 4, by simpa using b.cell 5, by simpa using b.cell 6, by simpa using b.cell 7, by simpa using b.cell 8⟩
    have l6 : ∀ wz, Nw w10.drew wz → Calls Tryz.prog 23 #[.slice A n c, .slice A2 n c2] wz fun e w' => e = .returned (.bool true) ∧ Nw wz w' := fun wz f => by
      have h1 := (ho.fr (q9.tr q10) (fun _ _ h => h)).fr (((Fr.refl (fun _ => False) w10).drew).tr f) (fun _ _ h => h)
      have h2 := hs2.fr (((Fr.refl (fun _ => False) w10).drew).tr f) (fun _ _ h => h)
      have h := same_u8 wz _ _ A A2 c c2 bs bs h1 h2 (by rw [HNN.out]; omega)
      rw [HNN.out] at h
      exact h.mono fun e w' h => ⟨by simpa using h.1, h.2.fr _⟩
    obtain ⟨ok, hok⟩ : ∃ ok, ansOk x = ok := ⟨_, rfl⟩
    have l11 : ∀ wz (b : Nat), Nw w10.drew wz → Blk wz b 41 (afA x p2) → Calls Tryz.prog 12 #[.slice (some ⟨b, 0, none⟩) 1 1] wz fun e w' => e = .returned (.bool ok) ∧ Nw wz w' := fun wz b f hb => by
      rw [← hok]; exact oSound_any wz _ b x p2 hb (hin7 wz (R wz f)) hsz
    have l14 : ∀ wz, Nw w10.drew wz → Calls Tryz.prog 34 #[.agg (afA x p)] wz fun e w' => e = .returned (.bool ok) ∧ Nw wz w' := fun wz f => by
      rw [← hok]; exact rsound_any wz F x p (hix7 wz (R wz f)) hsz
    have l22 : ∀ wz, Nw w10.drew wz → Calls Tryz.prog 30 #[.slice p2.r x.reads.length p2.cr, .slice p.r x.reads.length p.cr] wz fun e w' => e = .returned (.bool true) ∧ Nw wz w' := fun wz f => by
      rw [r1, r2]; exact kept_reads wz F gr p.r p.cr x.reads (lr7.fr (R wz f) (fun h => h)) (hix7 wz (R wz f)).reads (by omega)
    have l29 : ∀ wz, Nw w10.drew wz → Calls Tryz.prog 31 #[.slice p2.b x.bytes.length p2.cb, .slice p.b x.bytes.length p.cb] wz fun e w' => e = .returned (.bool true) ∧ Nw wz w' := fun wz f => by
      rw [r3, r4]; exact (kept_u8 wz F (some ⟨gb, 0, none⟩) p.b p.cb x.bytes (lb7.fr (R wz f) (fun _ _ h => h)) (hix7 wz (R wz f)).bytes (by omega)).mono fun e w' h => ⟨h.1, h.2.fr _⟩
    have hQ : Nw w w10.drew := Q7.tr R0
    have HQ := Lib.hid hQ
    clear hok hQ r1 r2 r3 r4 hin7 hix7 x7 n7 x8 ho hs2 lr7 lb7 HB
    have hlast : Lasts ([blkF w10.drew 10 41 (afA x p2)]) := (by intro f hf; simp only [List.mem_cons, List.not_mem_nil, or_false] at hf; rcases hf with rfl <;> first | exact bytesF_lasts _ _ _ | exact blkF_lasts _ _ _ _ | exact rowsF_lasts _ _ _ _ _)
    refine wp_region_eff2 (RfC w10.drew ([blkF w10.drew 10 41 (afA x p2)])) (fun _ => (0, none)) (by kernel_rfl) (by kernel_rfl) ⟨Fr.refl _ _, fun _ _ h => by cases h⟩ ?_
    apply wpEff2_cons
    focus
      intro B L wz hL hD hC
      refine .inl ⟨by rfl, ?_⟩
      obtain ⟨y_0, y_1, y_2, y_3, y_4, y_5, y_6, y_7, y_8, n_0, n_1, n_2, n_3, n_4, n_5, n_6, n_7, n_8⟩ := hS wz hC.nw
      unfold effAt
      go_simp
      exact ⟨rfl, hC.keep _ (by rfl)⟩
    simp only [Act.put, List.setIfInBounds_toArray, List.set_cons_zero, List.set_cons_succ]
    apply wpEff2_cons
    focus
      intro B L wz hL hD hC
      refine .inl ⟨by rfl, ?_⟩
      obtain ⟨y_0, y_1, y_2, y_3, y_4, y_5, y_6, y_7, y_8, n_0, n_1, n_2, n_3, n_4, n_5, n_6, n_7, n_8⟩ := hS wz hC.nw
      unfold effAt
      go_simp
      exact ⟨rfl, hC.keep _ (by rfl)⟩
    simp only [Act.put, List.setIfInBounds_toArray, List.set_cons_zero, List.set_cons_succ]
    apply wpEff2_cons
    focus
      intro B L wz hL hD hC
      refine .inl ⟨by rfl, ?_⟩
      obtain ⟨y_0, y_1, y_2, y_3, y_4, y_5, y_6, y_7, y_8, n_0, n_1, n_2, n_3, n_4, n_5, n_6, n_7, n_8⟩ := hS wz hC.nw
      unfold effAt
      go_simp
      exact ⟨rfl, hC.keep _ (by rfl)⟩
    simp only [Act.put, List.setIfInBounds_toArray, List.set_cons_zero, List.set_cons_succ]
    apply wpEff2_cons
    focus
      intro B L wz hL hD hC
      refine .inl ⟨by rfl, ?_⟩
      obtain ⟨y_0, y_1, y_2, y_3, y_4, y_5, y_6, y_7, y_8, n_0, n_1, n_2, n_3, n_4, n_5, n_6, n_7, n_8⟩ := hS wz hC.nw
      unfold effAt
      go_simp
      exact ⟨rfl, hC.keep _ (by rfl)⟩
    simp only [Act.put, List.setIfInBounds_toArray, List.set_cons_zero, List.set_cons_succ]
    apply wpEff2_cons
    focus
      intro B L wz hL hD hC
      refine .inl ⟨by rfl, ?_⟩
      obtain ⟨y_0, y_1, y_2, y_3, y_4, y_5, y_6, y_7, y_8, n_0, n_1, n_2, n_3, n_4, n_5, n_6, n_7, n_8⟩ := hS wz hC.nw
      unfold effAt
      go_simp
      exact ⟨rfl, hC.keep _ (by rfl)⟩
    simp only [Act.put, List.setIfInBounds_toArray, List.set_cons_zero, List.set_cons_succ]
    apply wpEff2_cons
    focus
      intro B L wz hL hD hC
      refine .inl ⟨by rfl, ?_⟩
      obtain ⟨y_0, y_1, y_2, y_3, y_4, y_5, y_6, y_7, y_8, n_0, n_1, n_2, n_3, n_4, n_5, n_6, n_7, n_8⟩ := hS wz hC.nw
      unfold effAt
      go_simp
      exact ⟨rfl, hC.keep _ (by rfl)⟩
    simp only [Act.put, List.setIfInBounds_toArray, List.set_cons_zero, List.set_cons_succ]
    apply wpEff2_cons
    focus
      intro B L wz hL hD hC
      have hnw := hC.nw
      refine .inl ⟨by rfl, ?_⟩
      unfold effAt
      go_simp
      refine (l6 wz hnw).mono ?_
      rintro e w9 ⟨rfl, q9⟩
      exact ⟨rfl, (hC.go hlast q9).keep _ (by rfl)⟩
    simp only [Act.put, List.setIfInBounds_toArray, List.set_cons_zero, List.set_cons_succ]
    apply wpEff2_cons
    focus
      intro B L wz hL hD hC
      refine .inl ⟨by rfl, ?_⟩
      obtain ⟨y_0, y_1, y_2, y_3, y_4, y_5, y_6, y_7, y_8, n_0, n_1, n_2, n_3, n_4, n_5, n_6, n_7, n_8⟩ := hS wz hC.nw
      unfold effAt
      go_simp
      exact ⟨rfl, hC.keep _ (by rfl)⟩
    simp only [Act.put, List.setIfInBounds_toArray, List.set_cons_zero, List.set_cons_succ]
    apply wpEff2_cons
    focus
      intro B L wz hL hD hC
      refine .inl ⟨by rfl, ?_⟩
      obtain ⟨y_0, y_1, y_2, y_3, y_4, y_5, y_6, y_7, y_8, n_0, n_1, n_2, n_3, n_4, n_5, n_6, n_7, n_8⟩ := hS wz hC.nw
      unfold effAt
      go_simp
      exact ⟨rfl, hC.keep _ (by rfl)⟩
    simp only [Act.put, List.setIfInBounds_toArray, List.set_cons_zero, List.set_cons_succ]
    apply wpEff2_cons
    focus
      intro B L wz hL hD hC
      refine .inl ⟨by rfl, ?_⟩
      obtain ⟨y_0, y_1, y_2, y_3, y_4, y_5, y_6, y_7, y_8, n_0, n_1, n_2, n_3, n_4, n_5, n_6, n_7, n_8⟩ := hS wz hC.nw
      unfold effAt
      go_simp
      exact ⟨rfl, hC.keep _ (by rfl)⟩
    simp only [Act.put, List.setIfInBounds_toArray, List.set_cons_zero, List.set_cons_succ]
    refine wpEff2_free (fun b => .slice (some ⟨b.1, 0, none⟩) 1 1) ?_ ?_
    focus
      intro B L wz hL hD hC
      refine .inl ⟨by rfl, ?_⟩
      unfold effAt2
      go_simp
      exact ⟨(wz.heap.size, none), rfl, hC.put hlast ((Fr.refl (fun _ => False) wz).alloc _) _ _ (by intro f hf hk; simp only [List.mem_cons, List.not_mem_nil, or_false] at hf; rcases hf with rfl <;> first | exact ⟨Blk.new wz _ _, hC.nw.size⟩ | exact absurd hk (by simp [bytesF, blkF, rowsF]))⟩
    simp only [Act.put, List.setIfInBounds_toArray, List.set_cons_zero, List.set_cons_succ]
    apply wpEff2_cons
    focus
      intro B L wz hL hD hC
      have g0 := hC.get 0 _ rfl (hD 10 (by kernel_rfl))
      have hnw := hC.nw
      refine .inl ⟨by rfl, ?_⟩
      unfold effAt
      go_simp
      refine (l11 wz _ hnw g0.1).mono ?_
      rintro e w9 ⟨rfl, q9⟩
      exact ⟨rfl, (hC.go hlast q9).keep _ (by rfl)⟩
    simp only [Act.put, List.setIfInBounds_toArray, List.set_cons_zero, List.set_cons_succ]
    apply wpEff2_cons
    focus
      intro B L wz hL hD hC
      refine .inl ⟨by rfl, ?_⟩
      obtain ⟨y_0, y_1, y_2, y_3, y_4, y_5, y_6, y_7, y_8, n_0, n_1, n_2, n_3, n_4, n_5, n_6, n_7, n_8⟩ := hS wz hC.nw
      unfold effAt
      go_simp
      exact ⟨rfl, hC.keep _ (by rfl)⟩
    simp only [Act.put, List.setIfInBounds_toArray, List.set_cons_zero, List.set_cons_succ]
    apply wpEff2_cons
    focus
      intro B L wz hL hD hC
      have hnw := hC.nw
      refine .inl ⟨by rfl, ?_⟩
      unfold effAt
      go_simp
      refine (htd wz).mono ?_
      rintro e w9 ⟨rfl, q9⟩
      exact ⟨rfl, (hC.go hlast q9).keep _ (by rfl)⟩
    simp only [Act.put, List.setIfInBounds_toArray, List.set_cons_zero, List.set_cons_succ]
    apply wpEff2_cons
    focus
      intro B L wz hL hD hC
      have hnw := hC.nw
      refine .inl ⟨by rfl, ?_⟩
      unfold effAt
      go_simp
      refine (l14 wz hnw).mono ?_
      rintro e w9 ⟨rfl, q9⟩
      exact ⟨rfl, (hC.go hlast q9).keep _ (by rfl)⟩
    simp only [Act.put, List.setIfInBounds_toArray, List.set_cons_zero, List.set_cons_succ]
    apply wpEff2_cons
    focus
      intro B L wz hL hD hC
      refine .inl ⟨by rfl, ?_⟩
      obtain ⟨y_0, y_1, y_2, y_3, y_4, y_5, y_6, y_7, y_8, n_0, n_1, n_2, n_3, n_4, n_5, n_6, n_7, n_8⟩ := hS wz hC.nw
      unfold effAt
      go_simp
      exact ⟨rfl, hC.keep _ (by rfl)⟩
    simp only [Act.put, List.setIfInBounds_toArray, List.set_cons_zero, List.set_cons_succ]
    apply wpEff2_cons
    focus
      intro B L wz hL hD hC
      refine .inl ⟨by rfl, ?_⟩
      obtain ⟨y_0, y_1, y_2, y_3, y_4, y_5, y_6, y_7, y_8, n_0, n_1, n_2, n_3, n_4, n_5, n_6, n_7, n_8⟩ := hS wz hC.nw
      unfold effAt
      go_simp
      exact ⟨rfl, hC.keep _ (by rfl)⟩
    simp only [Act.put, List.setIfInBounds_toArray, List.set_cons_zero, List.set_cons_succ]
    apply wpEff2_cons
    focus
      intro B L wz hL hD hC
      refine .inl ⟨by rfl, ?_⟩
      obtain ⟨y_0, y_1, y_2, y_3, y_4, y_5, y_6, y_7, y_8, n_0, n_1, n_2, n_3, n_4, n_5, n_6, n_7, n_8⟩ := hS wz hC.nw
      unfold effAt
      go_simp
      exact ⟨rfl, hC.keep _ (by rfl)⟩
    simp only [Act.put, List.setIfInBounds_toArray, List.set_cons_zero, List.set_cons_succ]
    apply wpEff2_cons
    focus
      intro B L wz hL hD hC
      refine .inl ⟨by rfl, ?_⟩
      obtain ⟨y_0, y_1, y_2, y_3, y_4, y_5, y_6, y_7, y_8, n_0, n_1, n_2, n_3, n_4, n_5, n_6, n_7, n_8⟩ := hS wz hC.nw
      unfold effAt
      go_simp
      exact ⟨rfl, hC.keep _ (by rfl)⟩
    simp only [Act.put, List.setIfInBounds_toArray, List.set_cons_zero, List.set_cons_succ]
    apply wpEff2_cons
    focus
      intro B L wz hL hD hC
      refine .inl ⟨by rfl, ?_⟩
      obtain ⟨y_0, y_1, y_2, y_3, y_4, y_5, y_6, y_7, y_8, n_0, n_1, n_2, n_3, n_4, n_5, n_6, n_7, n_8⟩ := hS wz hC.nw
      unfold effAt
      go_simp
      exact ⟨rfl, hC.keep _ (by rfl)⟩
    simp only [Act.put, List.setIfInBounds_toArray, List.set_cons_zero, List.set_cons_succ]
    apply wpEff2_cons
    focus
      intro B L wz hL hD hC
      refine .inl ⟨by rfl, ?_⟩
      obtain ⟨y_0, y_1, y_2, y_3, y_4, y_5, y_6, y_7, y_8, n_0, n_1, n_2, n_3, n_4, n_5, n_6, n_7, n_8⟩ := hS wz hC.nw
      unfold effAt
      go_simp
      exact ⟨rfl, hC.keep _ (by rfl)⟩
    simp only [Act.put, List.setIfInBounds_toArray, List.set_cons_zero, List.set_cons_succ]
    apply wpEff2_cons
    focus
      intro B L wz hL hD hC
      refine .inl ⟨by rfl, ?_⟩
      obtain ⟨y_0, y_1, y_2, y_3, y_4, y_5, y_6, y_7, y_8, n_0, n_1, n_2, n_3, n_4, n_5, n_6, n_7, n_8⟩ := hS wz hC.nw
      unfold effAt
      go_simp
      exact ⟨rfl, hC.keep _ (by rfl)⟩
    simp only [Act.put, List.setIfInBounds_toArray, List.set_cons_zero, List.set_cons_succ]
    apply wpEff2_cons
    focus
      intro B L wz hL hD hC
      have hnw := hC.nw
      refine .inl ⟨by rfl, ?_⟩
      unfold effAt
      go_simp
      refine (l22 wz hnw).mono ?_
      rintro e w9 ⟨rfl, q9⟩
      exact ⟨rfl, (hC.go hlast q9).keep _ (by rfl)⟩
    simp only [Act.put, List.setIfInBounds_toArray, List.set_cons_zero, List.set_cons_succ]
    apply wpEff2_cons
    focus
      intro B L wz hL hD hC
      refine .inl ⟨by rfl, ?_⟩
      obtain ⟨y_0, y_1, y_2, y_3, y_4, y_5, y_6, y_7, y_8, n_0, n_1, n_2, n_3, n_4, n_5, n_6, n_7, n_8⟩ := hS wz hC.nw
      unfold effAt
      go_simp
      exact ⟨rfl, hC.keep _ (by rfl)⟩
    simp only [Act.put, List.setIfInBounds_toArray, List.set_cons_zero, List.set_cons_succ]
    apply wpEff2_cons
    focus
      intro B L wz hL hD hC
      refine .inl ⟨by rfl, ?_⟩
      obtain ⟨y_0, y_1, y_2, y_3, y_4, y_5, y_6, y_7, y_8, n_0, n_1, n_2, n_3, n_4, n_5, n_6, n_7, n_8⟩ := hS wz hC.nw
      unfold effAt
      go_simp
      exact ⟨rfl, hC.keep _ (by rfl)⟩
    simp only [Act.put, List.setIfInBounds_toArray, List.set_cons_zero, List.set_cons_succ]
    apply wpEff2_cons
    focus
      intro B L wz hL hD hC
      refine .inl ⟨by rfl, ?_⟩
      obtain ⟨y_0, y_1, y_2, y_3, y_4, y_5, y_6, y_7, y_8, n_0, n_1, n_2, n_3, n_4, n_5, n_6, n_7, n_8⟩ := hS wz hC.nw
      unfold effAt
      go_simp
      exact ⟨rfl, hC.keep _ (by rfl)⟩
    simp only [Act.put, List.setIfInBounds_toArray, List.set_cons_zero, List.set_cons_succ]
    apply wpEff2_cons
    focus
      intro B L wz hL hD hC
      refine .inl ⟨by rfl, ?_⟩
      obtain ⟨y_0, y_1, y_2, y_3, y_4, y_5, y_6, y_7, y_8, n_0, n_1, n_2, n_3, n_4, n_5, n_6, n_7, n_8⟩ := hS wz hC.nw
      unfold effAt
      go_simp
      exact ⟨rfl, hC.keep _ (by rfl)⟩
    simp only [Act.put, List.setIfInBounds_toArray, List.set_cons_zero, List.set_cons_succ]
    apply wpEff2_cons
    focus
      intro B L wz hL hD hC
      refine .inl ⟨by rfl, ?_⟩
      obtain ⟨y_0, y_1, y_2, y_3, y_4, y_5, y_6, y_7, y_8, n_0, n_1, n_2, n_3, n_4, n_5, n_6, n_7, n_8⟩ := hS wz hC.nw
      unfold effAt
      go_simp
      exact ⟨rfl, hC.keep _ (by rfl)⟩
    simp only [Act.put, List.setIfInBounds_toArray, List.set_cons_zero, List.set_cons_succ]
    apply wpEff2_cons
    focus
      intro B L wz hL hD hC
      refine .inl ⟨by rfl, ?_⟩
      obtain ⟨y_0, y_1, y_2, y_3, y_4, y_5, y_6, y_7, y_8, n_0, n_1, n_2, n_3, n_4, n_5, n_6, n_7, n_8⟩ := hS wz hC.nw
      unfold effAt
      go_simp
      exact ⟨rfl, hC.keep _ (by rfl)⟩
    simp only [Act.put, List.setIfInBounds_toArray, List.set_cons_zero, List.set_cons_succ]
    apply wpEff2_cons
    focus
      intro B L wz hL hD hC
      have hnw := hC.nw
      refine .inl ⟨by rfl, ?_⟩
      unfold effAt
      go_simp
      refine (l29 wz hnw).mono ?_
      rintro e w9 ⟨rfl, q9⟩
      exact ⟨rfl, (hC.go hlast q9).keep _ (by rfl)⟩
    simp only [Act.put, List.setIfInBounds_toArray, List.set_cons_zero, List.set_cons_succ]
    apply wpEff2_cons
    focus
      intro B L wz hL hD hC
      refine .inl ⟨by rfl, ?_⟩
      obtain ⟨y_0, y_1, y_2, y_3, y_4, y_5, y_6, y_7, y_8, n_0, n_1, n_2, n_3, n_4, n_5, n_6, n_7, n_8⟩ := hS wz hC.nw
      unfold effAt
      go_simp
      exact ⟨rfl, hC.keep _ (by rfl)⟩
    simp only [Act.put, List.setIfInBounds_toArray, List.set_cons_zero, List.set_cons_succ]
    apply wpEff2_cons
    focus
      intro B L wz hL hD hC
      refine .inl ⟨by rfl, ?_⟩
      obtain ⟨y_0, y_1, y_2, y_3, y_4, y_5, y_6, y_7, y_8, n_0, n_1, n_2, n_3, n_4, n_5, n_6, n_7, n_8⟩ := hS wz hC.nw
      unfold effAt
      go_simp
      exact ⟨rfl, hC.keep _ (by rfl)⟩
    simp only [Act.put, List.setIfInBounds_toArray, List.set_cons_zero, List.set_cons_succ]
    apply wpEff2_cons
    focus
      intro B L wz hL hD hC
      have hnw := hC.nw
      refine .inl ⟨by rfl, ?_⟩
      unfold effAt
      go_simp
      refine (haw wz).mono ?_
      rintro e w9 ⟨rfl, q9⟩
      exact ⟨rfl, (hC.go hlast q9).keep _ (by rfl)⟩
    simp only [Act.put, List.setIfInBounds_toArray, List.set_cons_zero, List.set_cons_succ]
    apply wpEff2_cons
    focus
      intro B L wz hL hD hC
      refine .inl ⟨by rfl, ?_⟩
      obtain ⟨y_0, y_1, y_2, y_3, y_4, y_5, y_6, y_7, y_8, n_0, n_1, n_2, n_3, n_4, n_5, n_6, n_7, n_8⟩ := hS wz hC.nw
      unfold effAt
      go_simp
      exact ⟨rfl, hC.keep _ (by rfl)⟩
    simp only [Act.put, List.setIfInBounds_toArray, List.set_cons_zero, List.set_cons_succ]
    apply wpEff2_cons
    focus
      intro B L wz hL hD hC
      refine .inl ⟨by rfl, ?_⟩
      obtain ⟨y_0, y_1, y_2, y_3, y_4, y_5, y_6, y_7, y_8, n_0, n_1, n_2, n_3, n_4, n_5, n_6, n_7, n_8⟩ := hS wz hC.nw
      unfold effAt
      go_simp
      exact ⟨rfl, hC.keep _ (by rfl)⟩
    simp only [Act.put, List.setIfInBounds_toArray, List.set_cons_zero, List.set_cons_succ]
    refine wpEff2_nil fun B wz hC5 => ?_
    have hnw := hC5.nw
    go_wp2_with fail
    go_ret
    exact ⟨rfl, HQ.out.tr hnw⟩
end Go.Proofs.YtkjnlhidnkbelaaGreatDoor
