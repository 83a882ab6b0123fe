/- Lemmas of the walks: KitAc, OhB. (Laid together by shake.py.) -/
import Derived.Test.YtkjnlhidnkbelaaGreatDoorOz03
import Derived.Test.YtkjnlhidnkbelaaGreatDoorOz18
import Derived.Test.YtkjnlhidnkbelaaGreatDoorOz22
set_option linter.unusedVariables false
set_option linter.unusedSimpArgs false
namespace Go.Proofs.YtkjnlhidnkbelaaGreatDoor
open Go Go.RowKit

/-- The mark of a place in a list of acts. -/
def mkA (k i : Nat) : ActT := ⟨0, mkT k i, [], 0⟩
theorem ac_one (a : Int) (x : List UInt8) (z : List UInt8) (b : Int) : (#[.int .u8 a, StrV x, StrV z, I64 b] : Array Value).all (·.oneCell') = true := by
  rw [List.all_toArray]
  simp only [List.all_cons, List.all_nil]
  rfl
set_option maxRecDepth 100000 in
theorem markAct_any (w : World) (k i : Nat) :
    Calls Tryz.prog 71 #[.int .i64 k, .int .i64 i] w fun e w' => e = .returned (.agg #[.int .u8 0, StrV (mkT k i), .string ⟨#[]⟩, .int .i64 0]) ∧ Nw w w' := by
  have hone := ac_one 0 (mkT k i) [] 0
  have hT := Blk.new w 91 #[.int .u8 0, .string ⟨#[]⟩, .string ⟨#[]⟩, .int .i64 0]
  have hmk := markText_any (w.alloc (.cells #[.int .u8 0, .string ⟨#[]⟩, .string ⟨#[]⟩, .int .i64 0] 91)) k i
  go_enter Tryz.func71, Tryz.ntmps71
  go_wp2_with fail
  refine hmk.mono ?_
  rintro e w1 ⟨rfl, q1⟩
  have q01 : Nw w w1 := ((Fr.refl (fun _ => False) w).alloc _).tr q1
  have hT1 := hT.fr q1 (fun h => h)
  have hE := hT1.row #[.int .u8 0, StrV (mkT k i), StrV [], I64 0]
  go_wp2_with (refine wpList_store_row rfl 91 _ _ rfl w.heap.size _ rfl rfl 91 _ hT1 act_size rfl hone ?_)
  refine bodyPost_ret (v := .agg #[.int .u8 0, StrV (mkT k i), StrV [], I64 0]) ?_ rfl ?_
  · exact results_cell_row rfl _ _ w.heap.size 91 _ (0, 0) _ rfl hE Tryz.underlying91 rfl act_size
  exact ⟨rfl, q01.setRow (.inr (Nat.le_refl _)) _⟩

/-- The marks behind. -/
def behindA : List ActT := (List.range 12).map (mkA 1)
/-- What is lent: reads with marks in their spare room. -/
def LentAc (w : World) (g : Nat) (l : List ActT) : Prop := Own w 91 4 (some ⟨g, 0, none⟩) (l.length + 12) (l.length + 12) (actsCells (l ++ behindA))
def LentAcRel (w : World) (g : Nat) (l : List ActT) (v i : Value) (wr : World) : Prop :=
  ∃ k : Nat, k ≤ 12 ∧ i = .int .i64 k ∧ v = .slice (some ⟨g, 0, none⟩) (l.length + k) (l.length + 12) ∧ Own wr 91 4 (some ⟨g, 0, none⟩) (l.length + k) (l.length + 12) (actsCells (l ++ (List.range k).map (mkA 1))) ∧ Nw w wr
theorem under_acts : Tryz.prog.underlying 26 = some (.slice (Tryz.prog.elem 26)) := by kernel_rfl
theorem size_acts (w : World) : (sizeOf (Tryz.prog.elem 26)).run Tryz.prog w = .ok 4 w := by kernel_rfl
set_option maxRecDepth 100000 in
set_option maxHeartbeats 1000000 in
theorem lent_acts (w : World) (F : Nat → Prop) (A : Option Addr) (c : Nat) (l : List ActT) (h : Sl w F A (actsCells l)) (hsz : l.length ≤ 1000000000) :
    Calls Tryz.prog 24 #[.slice A l.length c] w fun e w' => ∃ g, e = .returned (.slice (some ⟨g, 0, none⟩) l.length (l.length + 12)) ∧ LentAc w' g l ∧ Nw w w' ∧ w.heap.size ≤ g := by
  have hlen := actsCells_len l
  obtain ⟨n, hn⟩ : ∃ n, n = l.length := ⟨_, rfl⟩
  rw [← hn] at hsz hlen ⊢
  have HN := Lib.hid hn
  clear hn
  go_enter Tryz.func24, Tryz.ntmps24
  go_wp2_with (first | (at_make; refine wl_make0 rfl _ _ _ rfl 48 (.agg #[.int .u8 0, .string ⟨#[]⟩, .string ⟨#[]⟩, .int .i64 0]) Tryz.underlying26 info_act .i64 .i64 ((n : Int) + 12) (n + 12) rfl rfl (by omega) (by omega) (by unfold maxLen; omega) ?_; intro w1 ho1 hq1; have hs1 := h.fr hq1 (fun _ _ h => h)) | (at_builtin; refine wl_append2 rfl _ _ _ rfl 48 (.agg #[.int .u8 0, .string ⟨#[]⟩, .string ⟨#[]⟩, .int .i64 0]) Tryz.underlying26 info_act rfl (by decide) rfl ho1 rfl hs1 hlen (actsCells_one l) (by omega) (by unfold maxLen; omega) ?_; intro A' cap' w2 hap))
  rcases hap with ⟨ho2, _, ⟨_, rfl, rfl, hf2⟩ | ⟨hlt, _⟩⟩
  rotate_left
  · omega
  simp only [Nat.zero_add, List.nil_append] at ho2 ⊢
  have hq2 : Nw w w2 := hq1.new hf2 (fun k hk => by rw [(inA_some _ _).1 hk]; exact Nat.le_refl _)
  clear hf2 ho1 hs1 hq1
  go_wp2_with fail
  go_loopw [3, 4] (fun v i wr => LentAcRel w w.heap.size l v i wr) (fun _ i _ => 12 - (intOf i).toNat)
  case atStart => exact ⟨0, by omega, rfl, by rw [← HN.out]; rfl, by rw [← HN.out]; simpa using ho2, hq2⟩
  case round =>
    obtain ⟨k, hk, rfl, rfl, ho, hq⟩ := hrel
    rw [← HN.out] at ho ⊢
    by_cases hlt : k < 12
    · have hmk := fun w1 => markAct_any w1 1 k
      have HMK := Lib.hid hmk
      clear hmk
      go_wp2_with (first | (go_at_call 71; refine (HMK.out _).mono ?_; rintro e w3 ⟨rfl, q3⟩; have ho3 := ho.fr q3 (fun _ _ h => h); have hnl := sl_new w3 91 (actCells (mkA 1 k)) _ rfl) | (at_builtin; refine wl_append2 rfl _ _ _ rfl 48 (.agg #[.int .u8 0, .string ⟨#[]⟩, .string ⟨#[]⟩, .int .i64 0]) Tryz.underlying26 info_act rfl (by decide) rfl (ho3.alloc _) rfl hnl rfl (by simp [actCells, mkA, Value.oneCell']) (by omega) (by unfold maxLen; omega) ?_; intro A' cap' w2 hap))
      rcases hap with ⟨ho4, _, ⟨_, rfl, rfl, hf3⟩ | ⟨hlt, _⟩⟩
      rotate_left
      · omega
      have hq3 : Nw w w2 := ((hq.tr q3).alloc _).new hf3 (fun k hk => by rw [(inA_some _ _).1 hk]; exact Nat.le_refl _)
      go_wp2_with fail
      go_roundw
      case rel =>
        refine ⟨k + 1, by omega, by go_num, by rw [← HN.out]; simp [Nat.add_assoc], ?_, hq3⟩
        rw [List.range_succ, ← HN.out]
        have e : n + (k + 1) = n + k + 1 := by omega
        rw [e, List.map_append, ← List.append_assoc, actsCells_append]
        exact ho4
      case measure => simp [intOf]; omega
    · have hk12 : k = 12 := by omega
      subst hk12
      have hs := slice_h (P := Tryz.prog) 26 under_acts 4 size_acts (some ⟨w.heap.size, 0, none⟩) (n + 12) (n + 12) n (by omega)
      go_wp2_with fail
      go_ret
      exact ⟨_, rfl, by unfold LentAc; rw [← HN.out]; exact ho, hq, Nat.le_refl _⟩
theorem LentAc.fr {w w' : World} {S : Nat → Prop} {g : Nat} {l : List ActT} (h : LentAc w g l) (hf : Fr S w w') (hn : ¬ S g) : LentAc w' g l := Own.fr h hf (fun k hk => by rw [(inA_some _ _).1 hk]; exact hn)
theorem LentAc.row {w : World} {g : Nat} {l : List ActT} (h : LentAc w g l) : Sl w (· = g) (some ⟨g, 0, none⟩) (actsCells l) := by
  have h1 := (Own.sl h).pre (k := l.length * 4)
  rw [actsCells_append, List.take_left' (actsCells_len l)] at h1
  exact h1.mono fun k hk _ => (inA_some _ _).1 hk
theorem behindA_len : behindA.length = 12 := by simp [behindA]
def KeptAcRel (w : World) (n : Nat) (i : Value) (wr : World) : Prop := ∃ k : Nat, k ≤ n + 12 ∧ i = .int .i64 k ∧ Nw w wr
set_option maxRecDepth 100000 in
set_option maxHeartbeats 2000000 in
theorem kept_acts (w : World) (F : Nat → Prop) (g : Nat) (A2 : Option Addr) (c2 : Nat) (l : List ActT) (h1 : LentAc w g l) (h2 : Sl w F A2 (actsCells l)) (hsz : l.length ≤ 1000000000) :
    Calls Tryz.prog 29 #[.slice (some ⟨g, 0, none⟩) l.length (l.length + 12), .slice A2 l.length c2] w fun e w' => e = .returned (.bool true) ∧ Nw w w' := by
  have hs := slice_h (P := Tryz.prog) 26 under_acts 4 size_acts (some ⟨g, 0, none⟩) l.length (l.length + 12) (l.length + 12) (Nat.le_refl _)
  obtain ⟨n, hn⟩ : ∃ n, n = l.length := ⟨_, rfl⟩
  rw [← hn] at hsz hs ⊢
  have HN := Lib.hid hn
  clear hn
  have e12 : (((n + 12 : Nat)) : Int) = (n : Int) + 12 := by omega
  go_enter Tryz.func29, Tryz.ntmps29
  go_wp2_with fail
  go_loopw [6] (fun i wr => KeptAcRel w n i wr) (fun i _ => n + 12 - (intOf i).toNat)
  case atStart => exact ⟨0, by omega, rfl, Fr.refl _ _⟩
  case round =>
    obtain ⟨k, hk, rfl, hq⟩ := hrel
    by_cases hlt : k < n + 12
    · have hl12 : k < (l ++ behindA).length := by rw [List.length_append, behindA_len, ← HN.out]; exact hlt
      obtain ⟨b1, o1, hbo, _, p0, p1, p2, p3⟩ := (Own.sl (h1.fr hq (fun h => h))).act hl12
      injection hbo with hbo
      injection hbo with e1 e2 _
      subst e1
      subst e2
      have hi0 : (k : Int) < (n : Int) + 12 := by omega
      by_cases hlt2 : k < n
      · have hkl : k < l.length := by rw [← HN.out]; exact hlt2
        obtain ⟨b2, o2, rfl, _, r0, r1, r2, r3⟩ := (h2.fr hq (fun _ _ h => h)).act hkl
        rw [List.getElem_append_left hkl] at p0 p1 p2 p3
        obtain ⟨x, hx⟩ : ∃ x, l[k] = x := ⟨_, rfl⟩
        rw [hx] at p0 p1 p2 p3 r0 r1 r2 r3
        clear hx
        have hi1 : (k : Int) < (n : Int) := by omega
        have hi2 : decide ((n : Int) ≤ (k : Int)) = false := by simp; omega
        have hi3 : decide (n ≤ k) = false := by simp; omega
        have hi4 : decide ((k : Int) < (n : Int)) = true := decide_eq_true hi1
        have hi5 : decide (k < n) = true := decide_eq_true hlt2
        have heq := fun (m : Later wr) => act_eql m.at_ x x
        simp only [decide_true] at heq
        have P0 := fun (m : Later wr) => m.cell p0
        have P1 := fun (m : Later wr) => m.cell p1
        have P2 := fun (m : Later wr) => m.cell p2
        have P3 := fun (m : Later wr) => m.cell p3
        have R0 := fun (m : Later wr) => m.cell r0
        have R1 := fun (m : Later wr) => m.cell r1
        have R2 := fun (m : Later wr) => m.cell r2
        have R3 := fun (m : Later wr) => m.cell r3
        simp only [Nat.zero_add] at P0 P1 P2 P3
        clear p0 p1 p2 p3 r0 r1 r2 r3
        go_wp2_with fail
        refine wp_region_later (by kernel_rfl) (by kernel_rfl) ?_
        repeat (go_big_quiet_step (fail))
        refine wpQuiet_later fun w5 q5 => ?_
        go_wp2_with fail
        go_roundw
        case rel => exact ⟨k + 1, by omega, by go_num, hq.tr q5⟩
        case measure => simp [intOf]; omega
      · rw [List.getElem_append_right (by rw [← HN.out]; omega)] at p0 p1 p2 p3
        have hv : behindA[k - l.length]'(by rw [behindA_len, ← HN.out]; omega) = mkA 1 (k - n) := by simp [behindA, ← HN.out]
        rw [hv] at p0 p1 p2 p3
        clear hv
        have hi1 : decide ((k : Int) < (n : Int)) = false := by simp; omega
        have hi3 : decide (k < n) = false := by simp; omega
        have hi2 : (n : Int) ≤ (k : Int) := by omega
        have hi4 : decide ((n : Int) ≤ (k : Int)) = true := decide_eq_true hi2
        have hi5 : decide (n ≤ k) = true := decide_eq_true (by omega)
        obtain ⟨j, hj⟩ : ∃ j, j = k - n := ⟨_, rfl⟩
        rw [← hj] at p0 p1 p2 p3
        have hsub : wrap64 ((k : Int) - (n : Int)) = (j : Int) := by unfold wrap64; omega
        have hsub2 : IntKind.i64.wrap ((k : Int) - (n : Int)) = (j : Int) := by rw [IntWalk.i64_in _ (by omega)]; omega
        have hmk := fun (m : Later wr) => markAct_any m.at_ 1 j
        have heq : ∀ (m : Later wr), (binOp .eql 91 (.agg #[.int .u8 0, StrV (mkT 1 j), .string ⟨#[]⟩, .int .i64 0]) (.agg #[.int .u8 0, StrV (mkT 1 j), .string ⟨#[]⟩, .int .i64 0])).run Tryz.prog m.at_ = .ok (.bool true) m.at_ := fun m => by
          have := act_eql m.at_ (mkA 1 j) (mkA 1 j)
          simp only [decide_true] at this
          exact this
        have p0 : wr.cell? _ = some (.int .u8 0) := p0
        have p1 : wr.cell? _ = some (StrV (mkT 1 j)) := p1
        have p2 : wr.cell? _ = some (.string ⟨#[]⟩) := p2
        have p3 : wr.cell? _ = some (.int .i64 0) := p3
        have hju : ((j : Nat) : Int) = (k : Int) - (n : Int) := by omega
        rw [hju] at hmk
        have P0 := fun (m : Later wr) => m.cell p0
        have P1 := fun (m : Later wr) => m.cell p1
        have P2 := fun (m : Later wr) => m.cell p2
        have P3 := fun (m : Later wr) => m.cell p3
        simp only [Nat.zero_add] at P0 P1 P2 P3
        have HMK := Lib.hid hmk
        clear p0 p1 p2 p3 hmk hju hj hsub hsub2
        have hsub2 : IntKind.i64.wrap ((k : Int) - (n : Int)) = (k : Int) - (n : Int) := IntWalk.i64_in _ (by omega)
        go_wp2_with fail
        refine wp_region_later (by kernel_rfl) (by kernel_rfl) ?_
        repeat (go_big_quiet_step ((go_at_call 71; exact Later.call (HMK.out _))))
        refine wpQuiet_later fun w5 q5 => ?_
        go_wp2_with fail
        go_roundw
        case rel => exact ⟨k + 1, by omega, by go_num, hq.tr q5⟩
        case measure => simp [intOf]; omega
    · go_wp2_with fail
      go_ret
      exact ⟨rfl, hq⟩
end Go.Proofs.YtkjnlhidnkbelaaGreatDoor

namespace Go.Proofs.YtkjnlhidnkbelaaGreatDoor
open Go Go.RowKit
set_option linter.unusedVariables false
set_option linter.unusedSimpArgs false
theorem ordB_most {x : OrdF} (h : ordOk x = true) : (ordB x).length ≤ 1000000 := by
  have hs := ordOk_sm h
  have h1 := encAll_le [x.kind, x.nm.1, x.nm.2, x.epoch]
  have h2 := encAll_le [x.scheme, x.stage, x.to]
  have h3 := rdgs_most x.reads (rdgOks_sm hs.reads.2)
  have h4 := enc_len x.reads.length
  have h5 := rowB_most x.bytes
  have h6 := hs.bytes
  have h7 := hs.reads.1
  have h8 := acts_most x.acts hs.acts_
  have h9 := hs.acts.1
  have h10 := enc_len x.acts.length
  have h11 := rowB_most x.lo
  have h12 := rowB_most x.hi
  have h13 := hs.lo
  have h14 := hs.hi
  unfold ordB
  simp only [List.length_append, List.length_cons, List.length_nil, flagB] at *
  omega
set_option maxRecDepth 100000 in
set_option maxHeartbeats 8000000 in
theorem puts_walk (w : World) (F : Nat → Prop) (hF : ∀ k, F k → k < w.heap.size) (x : OrdF) (p : Pl) (hi : OrdIn w F x p) (hkd : 0 ≤ x.kind ∧ x.kind ≤ 255) (hrz : RdgSz x.reads) (haz : ActSz x.acts) (hal : x.acts.length ≤ 3000000000000) (hlo : x.lo.length ≤ 140737488355328) (hhi : x.hi.length ≤ 140737488355328) :
    Calls Tryz.prog 5 #[.agg (ofA (U8V x.kind) x p)] w fun e w' => e = .returned (.bool true) ∧ Nw w w' := by
  have haw := fun w => awake22_any w
  obtain ⟨W0, hW0⟩ : ∃ W0, W0 = w.alloc (.cells (ofA (U8V x.kind) x p) 31) := ⟨_, rfl⟩
  have q0 : Nw w W0 := by rw [hW0]; exact (Fr.refl (fun _ => False) w).alloc _
  have x0 : Blk W0 w.heap.size 31 (ofA (U8V x.kind) x p) := by rw [hW0]; exact Blk.new w _ _
  have hgr := great22_any W0 F p.a p.r p.b p.ca x.reads.length p.cr x.bytes.length p.cb x.acts x.lo x.hi (hi.acts.fr q0 (fun _ _ h => h)) hal haz hlo hhi
  have HW0 := Lib.hid hW0
  clear hW0
  go_enter Tryz.func5, Tryz.ntmps5
  go_upto_region 1 with (fail)
  rw [← HW0.out]
  have c4 : W0.cell? ⟨w.heap.size, 4, none⟩ = some (.slice p.a x.acts.length p.ca) := by simpa using x0.cell 4
  have c6 : W0.cell? ⟨w.heap.size, 6, none⟩ = some (.slice p.r x.reads.length p.cr) := by simpa using x0.cell 6
  have c12 : W0.cell? ⟨w.heap.size, 12, none⟩ = some (.slice p.b x.bytes.length p.cb) := by simpa using x0.cell 12
  have csp := Blk.cells_in x0 10 2
  go_wp2_with (refine wl_load_cells rfl 29 _ rfl w.heap.size 10 rfl [StrV x.lo, StrV x.hi] _ csp Tryz.underlying29 rfl (by kernel_rfl) ?_)
  refine hgr.mono ?_
  rintro e w1 ⟨b, rfl, hb, q1⟩
  have Q1 := q0.tr q1
  have HB := Lib.hid hb
  clear hb hgr c4 c6 c12 csp
  cases b with
  | true =>
    go_wp2_with fail
    refine (haw _).mono ?_
    rintro e w2 ⟨rfl, q2⟩
    go_wp2_with fail
    go_ret
    exact ⟨rfl, Q1.tr q2⟩
  | false =>
    obtain ⟨⟨hal2, _⟩, hrl, hbl, hsp⟩ := HB.out rfl
    have hsz : OrdSz x := ⟨hkd, ⟨by omega, haz⟩, ⟨by omega, hrz⟩, by omega, by omega, by omega⟩
    have x1 := x0.fr q1 (fun h => h)
    obtain ⟨W3, hW3⟩ : ∃ W3, W3 = w1.alloc (.cells (ofA (U8V x.kind) x p) 31) := ⟨_, rfl⟩
    have q3 : Nw w1 W3 := by rw [hW3]; exact (Fr.refl (fun _ => False) w1).alloc _
    obtain ⟨g, hg⟩ : ∃ g, g = w1.heap.size := ⟨_, rfl⟩
    have n3 : Blk W3 g 31 (ofA (U8V x.kind) x p) := by rw [hW3, hg]; exact Blk.new w1 _ _
    have hgw : w.heap.size < g := by have := x1.lt; omega
    have x3 := x1.fr q3 (fun h => h)
    have Q3 := Q1.tr q3
    have d4 : W3.cell? ⟨w.heap.size, 4, none⟩ = some (.slice p.a x.acts.length p.ca) := by simpa using x3.cell 4
    have hla := lent_acts W3 F p.a p.ca x.acts (hi.acts.fr Q3 (fun _ _ h => h)) (by omega)
    have HW3 := Lib.hid hW3
    have HG := Lib.hid hg
    clear hW3
    go_upto_region 3 with (fail)
    go_upto_region 4 with (refine wpList_load_row rfl 31 _ rfl w.heap.size rfl 31 _ (0, 0) _ x1 Tryz.underlying31 rfl ord_size ?_)
    rw [← HW3.out, ← HG.out]
    clear hg
    go_upto_region 5 with (go_at_call 24; refine hla.mono ?_; rintro e w4 ⟨ga, rfl, la4, q4, hga4⟩; have n4 := n3.fr q4 (fun h => h); have e4 : w4.cell? ⟨g, 4, none⟩ = some (.slice p.a x.acts.length p.ca) := (by simpa using n4.cell 4); have f4 := n4.frozen 4)
    obtain ⟨W5, hW5⟩ : ∃ W5, W5 = w4.setCell ⟨g, 4, none⟩ (.slice (some ⟨ga, 0, none⟩) x.acts.length (x.acts.length + 12)) := ⟨_, rfl⟩
    obtain ⟨p0, hp0⟩ : ∃ p0 : Pl, p0 = { p with a := some ⟨ga, 0, none⟩, ca := x.acts.length + 12 } := ⟨_, rfl⟩
    have n5 : Blk W5 g 31 (ofA (U8V x.kind) x p0) := by rw [hW5, hp0]; exact n4.set_ 4 _
    have s5 : Fr (· = g) w4 W5 := by rw [hW5]; exact (Fr.refl _ w4).set1 _ _
    have x5 := (x3.fr q4 (fun h => h)).fr s5 (fun h => by omega)
    have hglt := n3.lt
    have la5 := la4.fr s5 (fun h => by have h2 : ga = g := h; omega)
    have Q5 : Nw w W5 := (Q3.tr q4).new s5 (fun k hk => by omega)
    have d6 : W5.cell? ⟨w.heap.size, 6, none⟩ = some (.slice p.r x.reads.length p.cr) := by simpa using x5.cell 6
    have hlr := lent_reads W5 F p.r p.cr x.reads (hi.reads.fr Q5 (fun _ _ h => h)) (by omega)
    have HW5 := Lib.hid hW5
    rw [← HW5.out]
    clear hW5 n4 e4 f4
    go_upto_region 6 with (go_at_call 25; refine hlr.mono ?_; rintro e w6 ⟨gr, rfl, lr6, q6, hgr6⟩; have n6 := n5.fr q6 (fun h => h); have e6 : w6.cell? ⟨g, 6, none⟩ = some (.slice p0.r x.reads.length p0.cr) := (by simpa using n6.cell 6); have f6 := n6.frozen 6)
    obtain ⟨W7, hW7⟩ : ∃ W7, W7 = w6.setCell ⟨g, 6, none⟩ (.slice (some ⟨gr, 0, none⟩) x.reads.length (x.reads.length + 12)) := ⟨_, rfl⟩
    obtain ⟨p1, hp1⟩ : ∃ p1 : Pl, p1 = { p0 with r := some ⟨gr, 0, none⟩, cr := x.reads.length + 12 } := ⟨_, rfl⟩
    have n7 : Blk W7 g 31 (ofA (U8V x.kind) x p1) := by rw [hW7, hp1]; exact n6.set_ 6 _
    have s7 : Fr (· = g) w6 W7 := by rw [hW7]; exact (Fr.refl _ w6).set1 _ _
    have x7 := (x5.fr q6 (fun h => h)).fr s7 (fun h => by omega)
    have hg5 := n5.lt
    have la7 := (la5.fr q6 (fun h => h)).fr s7 (fun h => by have h2 : ga = g := h; omega)
    have lr7 := lr6.fr s7 (fun h => by have h2 : gr = g := h; omega)
    have Q7 : Nw w W7 := (Q5.tr q6).new s7 (fun k hk => by omega)
    have d12 : W7.cell? ⟨w.heap.size, 12, none⟩ = some (.slice p.b x.bytes.length p.cb) := by simpa using x7.cell 12
    have hlb := lent_u8 W7 F p.b p.cb x.bytes (hi.bytes.fr Q7 (fun _ _ h => h)) (by omega)
    have HW7 := Lib.hid hW7
    rw [← HW7.out]
    clear hW7 n6 e6 f6
    go_upto_region 7 with (go_at_call 26; refine hlb.mono ?_; rintro e w8 ⟨gb, rfl, lb8, q8, hgb8⟩; have n8 := n7.fr q8 (fun h => h); have e12 : w8.cell? ⟨g, 12, none⟩ = some (.slice p1.b x.bytes.length p1.cb) := (by simpa using n8.cell 12); have f12 := n8.frozen 12)
    obtain ⟨W9, hW9⟩ : ∃ W9, W9 = w8.setCell ⟨g, 12, none⟩ (.slice (some ⟨gb, 0, none⟩) x.bytes.length (x.bytes.length + 12)) := ⟨_, rfl⟩
    obtain ⟨p2, hp2⟩ : ∃ p2 : Pl, p2 = { p1 with b := some ⟨gb, 0, none⟩, cb := x.bytes.length + 12 } := ⟨_, rfl⟩
    have n9 : Blk W9 g 31 (ofA (U8V x.kind) x p2) := by rw [hW9, hp2]; exact n8.set_ 12 _
    have s9 : Fr (· = g) w8 W9 := by rw [hW9]; exact (Fr.refl _ w8).set1 _ _
    have x9 := (x7.fr q8 (fun h => h)).fr s9 (fun h => by omega)
    have hg7 := n7.lt
    have la9 := (la7.fr q8 (fun h => h)).fr s9 (fun h => by have h2 : ga = g := h; omega)
    have lr9 := (lr7.fr q8 (fun h => h)).fr s9 (fun h => by have h2 : gr = g := h; omega)
    have lb9 := lb8.fr s9 (fun k hk h => by have h1 : k = gb := (inA_some _ _).1 hk; have h2 : k = g := h; omega)
    have Q9 : Nw w W9 := (Q7.tr q8).new s9 (fun k hk => by omega)
    have hp2r : (p2.a = some ⟨ga, 0, none⟩ ∧ p2.ca = x.acts.length + 12) ∧ (p2.r = some ⟨gr, 0, none⟩ ∧ p2.cr = x.reads.length + 12) ∧ p2.b = some ⟨gb, 0, none⟩ ∧ p2.cb = x.bytes.length + 12 := by rw [hp2, hp1, hp0]; exact ⟨⟨rfl, rfl⟩, ⟨rfl, rfl⟩, rfl, rfl⟩
    obtain ⟨⟨r1, r2⟩, ⟨r3, r4⟩, r5, r6⟩ := hp2r
    have hgb9 : gb < W9.heap.size := Own.lt lb9 _ ((inA_some _ _).2 rfl)
    have hin9 : ∀ w', Nw W9 w' → OrdIn w' (fun _ => True) x p2 := fun w' f => by
      refine ⟨?_, ?_, ?_, by rw [r2]; unfold maxLen; omega, by rw [r4]; unfold maxLen; omega, by rw [r6]; unfold maxLen; omega⟩
      · rw [r1]; exact ((LentAc.row la9).fr f (fun _ _ h => h)).mono (fun _ _ _ => trivial)
      · rw [r3]; exact ((lr9.row).fr f (fun _ _ h => h)).mono (fun _ _ _ => trivial)
      · rw [r5]; exact ((Lent.row lb9).fr f (fun _ _ h => h)).mono (fun _ _ _ => trivial)
    have hix9 : ∀ w', Nw W9 w' → OrdIn w' F x p := fun w' f => hi.fr (Q9.tr f) (fun _ _ h => h)
    have HW9 := Lib.hid hW9
    rw [← HW9.out]
    clear hW9 n8 e12 f12 n7 n5 x7 x5 x3 x1 x0 n3 la4 la5 la7 lr6 lr7 lb8 hla hlr hlb d4 d6 d12 hp0 hp1 hp2
    have hp := fun w' (f : Nw W9 w') => oput_any w' _ x p2 (hin9 w' f) hsz
    obtain ⟨po, hpo⟩ : ∃ po, (if ordOk x = true then some (ordB x) else none) = po := ⟨_, rfl⟩
    have hxp := fun w' (f : Nw W9 w') => xput_any w' F x p (hix9 w' f) hsz
    simp only [hpo] at hxp hp
    have hpl : (putOut po).1.length ≤ 1000000 := by
      rw [← hpo]
      by_cases hok : ordOk x = true
      · rw [if_pos hok]; exact ordB_most hok
      · rw [if_neg hok]; exact Nat.zero_le _
    clear hpo
    obtain ⟨bs, hbs⟩ : ∃ bs, (putOut po).1 = bs := ⟨_, rfl⟩
    obtain ⟨er, her⟩ : ∃ er, (putOut po).2 = er := ⟨_, rfl⟩
    obtain ⟨n, hn⟩ : ∃ n, bs.length = n := ⟨_, rfl⟩
    have hp2 : ∀ w', Nw W9 w' → Calls Tryz.prog 9 #[.agg (ofA (U8V x.kind) x p2)] w' fun e w'' => ∃ A c, e = .returned (.tuple #[.slice A n c, .int .i64 er]) ∧ Own w'' 5 1 A n c (bs.map B8) ∧ Nw w' w'' ∧ ∀ k, inA A k → w'.heap.size ≤ k := fun w' f => (hp w' f).mono fun e w'' h => by
      obtain ⟨A, c, h1, h2, h3, h4⟩ := h.out
      rw [hbs, her, hn] at h1
      rw [hbs, hn] at h2
      exact ⟨A, c, h1, h2, h3, h4⟩
    have hxp2 : ∀ w', Nw W9 w' → Calls Tryz.prog 27 #[.agg (ofA (I64 x.kind) x p)] w' fun e w'' => ∃ A c, e = .returned (.tuple #[.slice A n c, .int .i64 er]) ∧ Sl w'' (fun k => w'.heap.size ≤ k) A (bs.map B8) ∧ Nw w' w'' := fun w' f => (hxp w' f).mono fun e w'' h => by
      obtain ⟨A, c, h1, h2, h3⟩ := h.out
      rw [hbs, her, hn] at h1
      rw [hbs] at h3
      exact ⟨A, c, h1, h3, h2⟩
    rw [hbs, hn] at hpl
    have HNN := Lib.hid hn
    clear hp hxp hbs her hn
    have htd := fun w' => turned22_any w' x p hkd
    go_upto_region 8 with (first | (refine wpList_load_row rfl 31 _ rfl g rfl 31 _ (0, 0) _ n9 Tryz.underlying31 rfl ord_size ?_) | (go_at_call 9; refine (hp2 W9 (Fr.refl _ _)).mono ?_; rintro e w10 ⟨A, c, rfl, ho, q10, hA⟩))
    have x10 := x9.fr q10 (fun h => h)
    go_upto_region 9 with (first | (refine wpList_load_row rfl 31 _ rfl w.heap.size rfl 31 _ (0, 0) _ x10 Tryz.underlying31 rfl ord_size ?_) | (go_at_call 19; refine (htd _).mono ?_; rintro e w11 ⟨rfl, q11⟩) | (go_at_call 27; refine (hxp2 w11 (q10.tr q11)).mono ?_; rintro e w12 ⟨A2, c2, rfl, hs2, q12⟩))
    have q1012 := (q10.tr q11).tr q12
    have n12 := n9.fr q1012 (fun h => h)
    go_upto_region 10 with (first | (refine wpList_load_row rfl 31 _ rfl g rfl 31 _ (0, 0) _ n12 Tryz.underlying31 rfl ord_size ?_) | (go_at_call 9; refine (hp2 w12 q1012).mono ?_; rintro e w13 ⟨A3, c3, rfl, ho3, q13, hA3⟩))
    obtain ⟨S, hS0⟩ : ∃ S : Nat → Prop, S = fun k => inA A k ∨ inA A3 k := ⟨_, rfl⟩
    have hSlt : ∀ k, S k → W9.heap.size ≤ k ∧ k < w13.heap.size := fun k hk => by
      rw [hS0] at hk
      have z1 := q1012.size
      have z2 := q13.size
      have z3 := q10.size
      have z4 := (q11.tr q12).size
      rcases hk with h | h
      · have := ho.lt k h
        have := hA k h
        omega
      · have := ho3.lt k h
        have := hA3 k h
        omega
    have ho' : Own w13 5 1 A n c (bs.map B8) := ho.fr ((q11.tr q12).tr q13) (fun _ _ h => h)
    have hfar : ∀ k, inA A k → ¬ inA A3 k := fun k h1 h2 => by
      have := ho.lt k h1
      have := hA3 k h2
      have := (q11.tr q12).size
      omega
    have hs2' : Sl w13 (fun k => w11.heap.size ≤ k) A2 (bs.map B8) := hs2.fr q13 (fun _ _ h => h)
    have R0 : Nw W9 w13 := q1012.tr q13
    have Rn : ∀ wz, Nw w13 wz → Nw W9 wz := fun wz f => R0.tr f
    have hS : ∀ wz, Fr S w13 wz → wz.cell? ⟨w.heap.size, 0, none⟩ = some (U8V x.kind) ∧ wz.cell? ⟨w.heap.size, 1, none⟩ = some (I64 x.nm.1) ∧ wz.cell? ⟨w.heap.size, 2, none⟩ = some (I64 x.nm.2) ∧ wz.cell? ⟨w.heap.size, 3, none⟩ = some (I64 x.epoch) ∧ wz.cell? ⟨w.heap.size, 4, none⟩ = some (.slice p.a x.acts.length p.ca) ∧ wz.cell? ⟨w.heap.size, 5, none⟩ = some (.bool x.commit) ∧ wz.cell? ⟨w.heap.size, 6, none⟩ = some (.slice p.r x.reads.length p.cr) ∧ wz.cell? ⟨w.heap.size, 7, none⟩ = some (I64 x.scheme) ∧ wz.cell? ⟨w.heap.size, 8, none⟩ = some (I64 x.stage) ∧ wz.cell? ⟨w.heap.size, 9, none⟩ = some (I64 x.to) ∧ wz.cell? ⟨w.heap.size, 10, none⟩ = some (StrV x.lo) ∧ wz.cell? ⟨w.heap.size, 11, none⟩ = some (StrV x.hi) ∧ wz.cell? ⟨w.heap.size, 12, none⟩ = some (.slice p.b x.bytes.length p.cb) ∧ wz.cell? ⟨g, 0, none⟩ = some (U8V x.kind) ∧ wz.cell? ⟨g, 1, none⟩ = some (I64 x.nm.1) ∧ wz.cell? ⟨g, 2, none⟩ = some (I64 x.nm.2) ∧ wz.cell? ⟨g, 3, none⟩ = some (I64 x.epoch) ∧ wz.cell? ⟨g, 4, none⟩ = some (.slice p2.a x.acts.length p2.ca) ∧ wz.cell? ⟨g, 5, none⟩ = some (.bool x.commit) ∧ wz.cell? ⟨g, 6, none⟩ = some (.slice p2.r x.reads.length p2.cr) ∧ wz.cell? ⟨g, 7, none⟩ = some (I64 x.scheme) ∧ wz.cell? ⟨g, 8, none⟩ = some (I64 x.stage) ∧ wz.cell? ⟨g, 9, none⟩ = some (I64 x.to) ∧ wz.cell? ⟨g, 10, none⟩ = some (StrV x.lo) ∧ wz.cell? ⟨g, 11, none⟩ = some (StrV x.hi) ∧ wz.cell? ⟨g, 12, none⟩ = some (.slice p2.b x.bytes.length p2.cb) := fun wz f => by
      have a := (x9.fr R0 (fun h => h)).fr f (fun h => by have := (hSlt _ h).1; omega)
      have b := (n9.fr R0 (fun h => h)).fr f (fun h => by have := (hSlt _ h).1; have := n9.lt; omega)
      exact ⟨by simpa using a.cell 0, by simpa using a.cell 1, by simpa using a.cell 2, by simpa using a.cell 3, by simpa using a.cell 4, by simpa using a.cell 5, by simpa using a.cell 6, by simpa using a.cell 7, by simpa using a.cell 8, by simpa using a.cell 9, by simpa using a.cell 10, by simpa using a.cell 11, by simpa using a.cell 12, by simpa using b.cell 0, by simpa using b.cell 1, by simpa using b.cell 2, by simpa using b.cell 3, by simpa using b.cell 4, by simpa using b.cell 5, by simpa using b.cell 6, by simpa using b.cell 7, by simpa using b.cell 8, by simpa using b.cell 9, by simpa using b.cell 10, by simpa using b.cell 11, by simpa using b.cell 12⟩
    have l6 : ∀ wz, Nw w13 wz → Calls Tryz.prog 23 #[.slice A n c, .slice A2 n c2] wz fun e w' => e = .returned (.bool true) ∧ Nw wz w' := fun wz f => by
      have h1 := ho'.fr f (fun _ _ h => h)
      have h2 := hs2'.fr f (fun _ _ h => h)
      have h := same_u8 wz _ _ A A2 c c2 bs bs h1.sl h2 (by rw [HNN.out]; omega)
      rw [HNN.out] at h
      exact h.mono fun e w' h => ⟨by simpa using h.1, h.2.fr _⟩
    obtain ⟨ok, hok⟩ : ∃ ok, ordOk x = ok := ⟨_, rfl⟩
    have l11 : ∀ wz (b : Nat), Nw w13 wz → Blk wz b 31 (ofA (U8V x.kind) x p2) → Calls Tryz.prog 11 #[.slice (some ⟨b, 0, none⟩) 1 1] wz fun e w' => e = .returned (.bool ok) ∧ Nw wz w' := fun wz b f hb => by
      rw [← hok]; exact oRight_any wz _ b x p2 hb (hin9 wz (Rn wz f)) hsz
    have l14 : ∀ wz, Nw w13 wz → Calls Tryz.prog 28 #[.agg (ofA (I64 x.kind) x p)] wz fun e w' => e = .returned (.bool ok) ∧ Nw wz w' := fun wz f => by
      rw [← hok]; exact rright22_any wz F x p (hix9 wz (Rn wz f)) hsz
    have l22 : ∀ wz, Nw w13 wz → Calls Tryz.prog 29 #[.slice p2.a x.acts.length p2.ca, .slice p.a x.acts.length p.ca] wz fun e w' => e = .returned (.bool true) ∧ Nw wz w' := fun wz f => by
      rw [r1, r2]; exact kept_acts wz F ga p.a p.ca x.acts (la9.fr (Rn wz f) (fun h => h)) (hix9 wz (Rn wz f)).acts (by omega)
    have l29 : ∀ wz, Nw w13 wz → Calls Tryz.prog 30 #[.slice p2.r x.reads.length p2.cr, .slice p.r x.reads.length p.cr] wz fun e w' => e = .returned (.bool true) ∧ Nw wz w' := fun wz f => by
      rw [r3, r4]; exact kept_reads wz F gr p.r p.cr x.reads (lr9.fr (Rn wz f) (fun h => h)) (hix9 wz (Rn wz f)).reads (by omega)
    have l36 : ∀ wz, Fr S w13 wz → Calls Tryz.prog 31 #[.slice p2.b x.bytes.length p2.cb, .slice p.b x.bytes.length p.cb] wz fun e w' => e = .returned (.bool true) ∧ Nw wz w' := fun wz f => by
      have hb1 : Lent wz (some ⟨gb, 0, none⟩) x.bytes := Lent.fr (Lent.fr lb9 R0 (fun _ _ h => h)) f (fun k hk h => by have h1 : k = gb := (inA_some _ _).1 hk; have := (hSlt _ h).1; omega)
      have hb2 : Sl wz F p.b (x.bytes.map B8) := (hix9 _ R0).bytes.fr f (fun k hk h => by have := hF k hk; have := (hSlt _ h).1; have := Q9.size; omega)
      rw [r5, r6]; exact (kept_u8 wz F (some ⟨gb, 0, none⟩) p.b p.cb x.bytes hb1 hb2 (by omega)).mono fun e w' h => ⟨h.1, h.2.fr _⟩
    have l42 : ∀ wz (b : Nat), Nw w13 wz → Blk wz b 22 #[.slice A n c, .slice A3 n c3] → Calls Tryz.prog 32 #[.slice (some ⟨b, 0, none⟩) 2 2] wz fun e w' => e = .returned (.bool true) ∧ Fr S wz w' := fun wz b f hb => by
      refine (apart_list wz b [⟨A, n, c, bs⟩, ⟨A3, n, c3, bs⟩] hb (fun h hh => ?_) ?_ (by simp) (fun h hh => ?_)).mono fun e w' ⟨he, hf⟩ => ⟨he, hf.mono fun k hk => .inl ?_⟩
      · rcases List.mem_cons.1 hh with rfl | hh
        · exact ho'.fr f (fun _ _ h => h)
        · rw [List.mem_singleton.1 hh]; exact ho3.fr f (fun _ _ h => h)
      · exact List.pairwise_pair.2 hfar
      · rcases List.mem_cons.1 hh with rfl | hh
        · show n ≤ _; omega
        · rw [List.mem_singleton.1 hh]; show n ≤ _; omega
      · obtain ⟨h, hh, hk⟩ := hk
        rw [hS0]
        rcases List.mem_cons.1 hh with rfl | hh
        · exact .inl hk
        · rw [List.mem_singleton.1 hh] at hk; exact .inr hk
    have hQ : ∀ wz, Fr S w13 wz → Nw w wz := fun wz f => (Q9.tr R0).new f (fun k hk => by have := (hSlt k hk).1; have := Q9.size; omega)
    have HQ := Lib.hid hQ
    have hSt : ∀ k, S k → k < w13.heap.size := fun k hk => (hSlt k hk).2
    clear hok hQ r1 r2 r3 r4 r5 r6 hin9 hix9 x9 n9 x10 n12 ho hs2 la9 lr9 lb9 HB ho' hs2' ho3 hSlt hfar hS0 hp2 hxp2 q1012 R0 Rn hpl
    have hlast : LastsS S ([blkF w13 10 31 (ofA (U8V x.kind) x p2), blkF w13 41 22 #[.slice A n c, .slice A3 n c3]]) := (by intro f hf; simp only [List.mem_cons, List.not_mem_nil, or_false] at hf; rcases hf with rfl | rfl <;> exact blkF_lastsS _ _ hSt _ _ _)
    refine wp_region_effS S 42 ([blkF w13 10 31 (ofA (U8V x.kind) x p2), blkF w13 41 22 #[.slice A n c, .slice A3 n c3]]) (by kernel_rfl) (by kernel_rfl) ?_
    apply wpEff2_cons
    focus
      intro B L wz hL hD hC
      refine .inl ⟨by rfl, ?_⟩
      obtain ⟨y_0, y_1, y_2, y_3, y_4, y_5, y_6, y_7, y_8, y_9, y_10, y_11, y_12, n_0, n_1, n_2, n_3, n_4, n_5, n_6, n_7, n_8, n_9, n_10, n_11, n_12⟩ := hS wz hC.fr
      unfold effAt
      go_simp
      exact ⟨rfl, hC.keep (by kernel_rfl) hD (by rfl) (by rfl)⟩
    simp only [Act.put, List.setIfInBounds_toArray, List.set_cons_zero, List.set_cons_succ]
    apply wpEff2_cons
    focus
      intro B L wz hL hD hC
      refine .inl ⟨by rfl, ?_⟩
      obtain ⟨y_0, y_1, y_2, y_3, y_4, y_5, y_6, y_7, y_8, y_9, y_10, y_11, y_12, n_0, n_1, n_2, n_3, n_4, n_5, n_6, n_7, n_8, n_9, n_10, n_11, n_12⟩ := hS wz hC.fr
      unfold effAt
      go_simp
      exact ⟨rfl, hC.keep (by kernel_rfl) hD (by rfl) (by rfl)⟩
    simp only [Act.put, List.setIfInBounds_toArray, List.set_cons_zero, List.set_cons_succ]
    apply wpEff2_cons
    focus
      intro B L wz hL hD hC
      refine .inl ⟨by rfl, ?_⟩
      obtain ⟨y_0, y_1, y_2, y_3, y_4, y_5, y_6, y_7, y_8, y_9, y_10, y_11, y_12, n_0, n_1, n_2, n_3, n_4, n_5, n_6, n_7, n_8, n_9, n_10, n_11, n_12⟩ := hS wz hC.fr
      unfold effAt
      go_simp
      exact ⟨rfl, hC.keep (by kernel_rfl) hD (by rfl) (by rfl)⟩
    simp only [Act.put, List.setIfInBounds_toArray, List.set_cons_zero, List.set_cons_succ]
    apply wpEff2_cons
    focus
      intro B L wz hL hD hC
      refine .inl ⟨by rfl, ?_⟩
      obtain ⟨y_0, y_1, y_2, y_3, y_4, y_5, y_6, y_7, y_8, y_9, y_10, y_11, y_12, n_0, n_1, n_2, n_3, n_4, n_5, n_6, n_7, n_8, n_9, n_10, n_11, n_12⟩ := hS wz hC.fr
      unfold effAt
      go_simp
      exact ⟨rfl, hC.keep (by kernel_rfl) hD (by rfl) (by rfl)⟩
    simp only [Act.put, List.setIfInBounds_toArray, List.set_cons_zero, List.set_cons_succ]
    apply wpEff2_cons
    focus
      intro B L wz hL hD hC
      refine .inl ⟨by rfl, ?_⟩
      obtain ⟨y_0, y_1, y_2, y_3, y_4, y_5, y_6, y_7, y_8, y_9, y_10, y_11, y_12, n_0, n_1, n_2, n_3, n_4, n_5, n_6, n_7, n_8, n_9, n_10, n_11, n_12⟩ := hS wz hC.fr
      unfold effAt
      go_simp
      exact ⟨rfl, hC.keep (by kernel_rfl) hD (by rfl) (by rfl)⟩
    simp only [Act.put, List.setIfInBounds_toArray, List.set_cons_zero, List.set_cons_succ]
    apply wpEff2_cons
    focus
      intro B L wz hL hD hC
      refine .inl ⟨by rfl, ?_⟩
      obtain ⟨y_0, y_1, y_2, y_3, y_4, y_5, y_6, y_7, y_8, y_9, y_10, y_11, y_12, n_0, n_1, n_2, n_3, n_4, n_5, n_6, n_7, n_8, n_9, n_10, n_11, n_12⟩ := hS wz hC.fr
      unfold effAt
      go_simp
      exact ⟨rfl, hC.keep (by kernel_rfl) hD (by rfl) (by rfl)⟩
    simp only [Act.put, List.setIfInBounds_toArray, List.set_cons_zero, List.set_cons_succ]
    apply wpEff2_cons
    focus
      intro B L wz hL hD hC
      have hnw := hC.nw [38, 36, 31, 29, 24, 22, 17, 14, 13, 11, 8, 6] (by kernel_rfl) (by rfl) hL
      have hfr := hC.fr
      refine .inl ⟨by rfl, ?_⟩
      unfold effAt
      go_simp
      refine (l6 wz hnw).mono ?_
      rintro e w9 ⟨rfl, q9⟩
      exact ⟨rfl, (hC.go hlast q9).keep (by kernel_rfl) hD (by rfl) (by rfl)⟩
    simp only [Act.put, List.setIfInBounds_toArray, List.set_cons_zero, List.set_cons_succ]
    apply wpEff2_cons
    focus
      intro B L wz hL hD hC
      refine .inl ⟨by rfl, ?_⟩
      obtain ⟨y_0, y_1, y_2, y_3, y_4, y_5, y_6, y_7, y_8, y_9, y_10, y_11, y_12, n_0, n_1, n_2, n_3, n_4, n_5, n_6, n_7, n_8, n_9, n_10, n_11, n_12⟩ := hS wz hC.fr
      unfold effAt
      go_simp
      exact ⟨rfl, hC.keep (by kernel_rfl) hD (by rfl) (by rfl)⟩
    simp only [Act.put, List.setIfInBounds_toArray, List.set_cons_zero, List.set_cons_succ]
    apply wpEff2_cons
    focus
      intro B L wz hL hD hC
      refine .inl ⟨by rfl, ?_⟩
      obtain ⟨y_0, y_1, y_2, y_3, y_4, y_5, y_6, y_7, y_8, y_9, y_10, y_11, y_12, n_0, n_1, n_2, n_3, n_4, n_5, n_6, n_7, n_8, n_9, n_10, n_11, n_12⟩ := hS wz hC.fr
      unfold effAt
      go_simp
      exact ⟨rfl, hC.keep (by kernel_rfl) hD (by rfl) (by rfl)⟩
    simp only [Act.put, List.setIfInBounds_toArray, List.set_cons_zero, List.set_cons_succ]
    apply wpEff2_cons
    focus
      intro B L wz hL hD hC
      refine .inl ⟨by rfl, ?_⟩
      obtain ⟨y_0, y_1, y_2, y_3, y_4, y_5, y_6, y_7, y_8, y_9, y_10, y_11, y_12, n_0, n_1, n_2, n_3, n_4, n_5, n_6, n_7, n_8, n_9, n_10, n_11, n_12⟩ := hS wz hC.fr
      unfold effAt
      go_simp
      exact ⟨rfl, hC.keep (by kernel_rfl) hD (by rfl) (by rfl)⟩
    simp only [Act.put, List.setIfInBounds_toArray, List.set_cons_zero, List.set_cons_succ]
    refine wpEff2_free (fun b => .slice (some ⟨b.1, 0, none⟩) 1 1) ?_ ?_
    focus
      intro B L wz hL hD hC
      refine .inl ⟨by rfl, ?_⟩
      unfold effAt2
      go_simp
      exact ⟨(wz.heap.size, none), rfl, hC.put hlast ((Fr.refl (fun _ => False) wz).alloc _) _ _ (by kernel_rfl) hD (by rfl) (by intro f hf hk; simp only [List.mem_cons, List.not_mem_nil, or_false] at hf; rcases hf with rfl | rfl <;> first | exact ⟨Blk.new wz _ _, hC.fr.size⟩ | exact absurd hk (by simp [blkF]))⟩
    simp only [Act.put, List.setIfInBounds_toArray, List.set_cons_zero, List.set_cons_succ]
    apply wpEff2_cons
    focus
      intro B L wz hL hD hC
      have g0 := hC.get 0 _ rfl (hD 10 (by kernel_rfl))
      have hnw := hC.nw [38, 36, 31, 29, 24, 22, 17, 14, 13, 11, 8, 6] (by kernel_rfl) (by rfl) hL
      have hfr := hC.fr
      refine .inl ⟨by rfl, ?_⟩
      unfold effAt
      go_simp
      refine (l11 wz _ hnw g0.1).mono ?_
      rintro e w9 ⟨rfl, q9⟩
      exact ⟨rfl, (hC.go hlast q9).keep (by kernel_rfl) hD (by rfl) (by rfl)⟩
    simp only [Act.put, List.setIfInBounds_toArray, List.set_cons_zero, List.set_cons_succ]
    apply wpEff2_cons
    focus
      intro B L wz hL hD hC
      refine .inl ⟨by rfl, ?_⟩
      obtain ⟨y_0, y_1, y_2, y_3, y_4, y_5, y_6, y_7, y_8, y_9, y_10, y_11, y_12, n_0, n_1, n_2, n_3, n_4, n_5, n_6, n_7, n_8, n_9, n_10, n_11, n_12⟩ := hS wz hC.fr
      unfold effAt
      go_simp
      exact ⟨rfl, hC.keep (by kernel_rfl) hD (by rfl) (by rfl)⟩
    simp only [Act.put, List.setIfInBounds_toArray, List.set_cons_zero, List.set_cons_succ]
    apply wpEff2_cons
    focus
      intro B L wz hL hD hC
      have hnw := hC.nw [38, 36, 31, 29, 24, 22, 17, 14, 13, 11, 8, 6] (by kernel_rfl) (by rfl) hL
      have hfr := hC.fr
      refine .inl ⟨by rfl, ?_⟩
      unfold effAt
      go_simp
      refine (htd wz).mono ?_
      rintro e w9 ⟨rfl, q9⟩
      exact ⟨rfl, (hC.go hlast q9).keep (by kernel_rfl) hD (by rfl) (by rfl)⟩
    simp only [Act.put, List.setIfInBounds_toArray, List.set_cons_zero, List.set_cons_succ]
    apply wpEff2_cons
    focus
      intro B L wz hL hD hC
      have hnw := hC.nw [38, 36, 31, 29, 24, 22, 17, 14, 13, 11, 8, 6] (by kernel_rfl) (by rfl) hL
      have hfr := hC.fr
      refine .inl ⟨by rfl, ?_⟩
      unfold effAt
      go_simp
      refine (l14 wz hnw).mono ?_
      rintro e w9 ⟨rfl, q9⟩
      exact ⟨rfl, (hC.go hlast q9).keep (by kernel_rfl) hD (by rfl) (by rfl)⟩
    simp only [Act.put, List.setIfInBounds_toArray, List.set_cons_zero, List.set_cons_succ]
    apply wpEff2_cons
    focus
      intro B L wz hL hD hC
      refine .inl ⟨by rfl, ?_⟩
      obtain ⟨y_0, y_1, y_2, y_3, y_4, y_5, y_6, y_7, y_8, y_9, y_10, y_11, y_12, n_0, n_1, n_2, n_3, n_4, n_5, n_6, n_7, n_8, n_9, n_10, n_11, n_12⟩ := hS wz hC.fr
      unfold effAt
      go_simp
      exact ⟨rfl, hC.keep (by kernel_rfl) hD (by rfl) (by rfl)⟩
    simp only [Act.put, List.setIfInBounds_toArray, List.set_cons_zero, List.set_cons_succ]
    apply wpEff2_cons
    focus
      intro B L wz hL hD hC
      refine .inl ⟨by rfl, ?_⟩
      obtain ⟨y_0, y_1, y_2, y_3, y_4, y_5, y_6, y_7, y_8, y_9, y_10, y_11, y_12, n_0, n_1, n_2, n_3, n_4, n_5, n_6, n_7, n_8, n_9, n_10, n_11, n_12⟩ := hS wz hC.fr
      unfold effAt
      go_simp
      exact ⟨rfl, hC.keep (by kernel_rfl) hD (by rfl) (by rfl)⟩
    simp only [Act.put, List.setIfInBounds_toArray, List.set_cons_zero, List.set_cons_succ]
    apply wpEff2_cons
    focus
      intro B L wz hL hD hC
      refine .inl ⟨by rfl, ?_⟩
      obtain ⟨y_0, y_1, y_2, y_3, y_4, y_5, y_6, y_7, y_8, y_9, y_10, y_11, y_12, n_0, n_1, n_2, n_3, n_4, n_5, n_6, n_7, n_8, n_9, n_10, n_11, n_12⟩ := hS wz hC.fr
      unfold effAt
      go_simp
      exact ⟨rfl, hC.keep (by kernel_rfl) hD (by rfl) (by rfl)⟩
    simp only [Act.put, List.setIfInBounds_toArray, List.set_cons_zero, List.set_cons_succ]
    apply wpEff2_cons
    focus
      intro B L wz hL hD hC
      refine .inl ⟨by rfl, ?_⟩
      obtain ⟨y_0, y_1, y_2, y_3, y_4, y_5, y_6, y_7, y_8, y_9, y_10, y_11, y_12, n_0, n_1, n_2, n_3, n_4, n_5, n_6, n_7, n_8, n_9, n_10, n_11, n_12⟩ := hS wz hC.fr
      unfold effAt
      go_simp
      exact ⟨rfl, hC.keep (by kernel_rfl) hD (by rfl) (by rfl)⟩
    simp only [Act.put, List.setIfInBounds_toArray, List.set_cons_zero, List.set_cons_succ]
    apply wpEff2_cons
    focus
      intro B L wz hL hD hC
      refine .inl ⟨by rfl, ?_⟩
      obtain ⟨y_0, y_1, y_2, y_3, y_4, y_5, y_6, y_7, y_8, y_9, y_10, y_11, y_12, n_0, n_1, n_2, n_3, n_4, n_5, n_6, n_7, n_8, n_9, n_10, n_11, n_12⟩ := hS wz hC.fr
      unfold effAt
      go_simp
      exact ⟨rfl, hC.keep (by kernel_rfl) hD (by rfl) (by rfl)⟩
    simp only [Act.put, List.setIfInBounds_toArray, List.set_cons_zero, List.set_cons_succ]
    apply wpEff2_cons
    focus
      intro B L wz hL hD hC
      refine .inl ⟨by rfl, ?_⟩
      obtain ⟨y_0, y_1, y_2, y_3, y_4, y_5, y_6, y_7, y_8, y_9, y_10, y_11, y_12, n_0, n_1, n_2, n_3, n_4, n_5, n_6, n_7, n_8, n_9, n_10, n_11, n_12⟩ := hS wz hC.fr
      unfold effAt
      go_simp
      exact ⟨rfl, hC.keep (by kernel_rfl) hD (by rfl) (by rfl)⟩
    simp only [Act.put, List.setIfInBounds_toArray, List.set_cons_zero, List.set_cons_succ]
    apply wpEff2_cons
    focus
      intro B L wz hL hD hC
      refine .inl ⟨by rfl, ?_⟩
      obtain ⟨y_0, y_1, y_2, y_3, y_4, y_5, y_6, y_7, y_8, y_9, y_10, y_11, y_12, n_0, n_1, n_2, n_3, n_4, n_5, n_6, n_7, n_8, n_9, n_10, n_11, n_12⟩ := hS wz hC.fr
      unfold effAt
      go_simp
      exact ⟨rfl, hC.keep (by kernel_rfl) hD (by rfl) (by rfl)⟩
    simp only [Act.put, List.setIfInBounds_toArray, List.set_cons_zero, List.set_cons_succ]
    apply wpEff2_cons
    focus
      intro B L wz hL hD hC
      have hnw := hC.nw [38, 36, 31, 29, 24, 22, 17, 14, 13, 11, 8, 6] (by kernel_rfl) (by rfl) hL
      have hfr := hC.fr
      refine .inl ⟨by rfl, ?_⟩
      unfold effAt
      go_simp
      refine (l22 wz hnw).mono ?_
      rintro e w9 ⟨rfl, q9⟩
      exact ⟨rfl, (hC.go hlast q9).keep (by kernel_rfl) hD (by rfl) (by rfl)⟩
    simp only [Act.put, List.setIfInBounds_toArray, List.set_cons_zero, List.set_cons_succ]
    apply wpEff2_cons
    focus
      intro B L wz hL hD hC
      refine .inl ⟨by rfl, ?_⟩
      obtain ⟨y_0, y_1, y_2, y_3, y_4, y_5, y_6, y_7, y_8, y_9, y_10, y_11, y_12, n_0, n_1, n_2, n_3, n_4, n_5, n_6, n_7, n_8, n_9, n_10, n_11, n_12⟩ := hS wz hC.fr
      unfold effAt
      go_simp
      exact ⟨rfl, hC.keep (by kernel_rfl) hD (by rfl) (by rfl)⟩
    simp only [Act.put, List.setIfInBounds_toArray, List.set_cons_zero, List.set_cons_succ]
    apply wpEff2_cons
    focus
      intro B L wz hL hD hC
      refine .inl ⟨by rfl, ?_⟩
      obtain ⟨y_0, y_1, y_2, y_3, y_4, y_5, y_6, y_7, y_8, y_9, y_10, y_11, y_12, n_0, n_1, n_2, n_3, n_4, n_5, n_6, n_7, n_8, n_9, n_10, n_11, n_12⟩ := hS wz hC.fr
      unfold effAt
      go_simp
      exact ⟨rfl, hC.keep (by kernel_rfl) hD (by rfl) (by rfl)⟩
    simp only [Act.put, List.setIfInBounds_toArray, List.set_cons_zero, List.set_cons_succ]
    apply wpEff2_cons
    focus
      intro B L wz hL hD hC
      refine .inl ⟨by rfl, ?_⟩
      obtain ⟨y_0, y_1, y_2, y_3, y_4, y_5, y_6, y_7, y_8, y_9, y_10, y_11, y_12, n_0, n_1, n_2, n_3, n_4, n_5, n_6, n_7, n_8, n_9, n_10, n_11, n_12⟩ := hS wz hC.fr
      unfold effAt
      go_simp
      exact ⟨rfl, hC.keep (by kernel_rfl) hD (by rfl) (by rfl)⟩
    simp only [Act.put, List.setIfInBounds_toArray, List.set_cons_zero, List.set_cons_succ]
    apply wpEff2_cons
    focus
      intro B L wz hL hD hC
      refine .inl ⟨by rfl, ?_⟩
      obtain ⟨y_0, y_1, y_2, y_3, y_4, y_5, y_6, y_7, y_8, y_9, y_10, y_11, y_12, n_0, n_1, n_2, n_3, n_4, n_5, n_6, n_7, n_8, n_9, n_10, n_11, n_12⟩ := hS wz hC.fr
      unfold effAt
      go_simp
      exact ⟨rfl, hC.keep (by kernel_rfl) hD (by rfl) (by rfl)⟩
    simp only [Act.put, List.setIfInBounds_toArray, List.set_cons_zero, List.set_cons_succ]
    apply wpEff2_cons
    focus
      intro B L wz hL hD hC
      refine .inl ⟨by rfl, ?_⟩
      obtain ⟨y_0, y_1, y_2, y_3, y_4, y_5, y_6, y_7, y_8, y_9, y_10, y_11, y_12, n_0, n_1, n_2, n_3, n_4, n_5, n_6, n_7, n_8, n_9, n_10, n_11, n_12⟩ := hS wz hC.fr
      unfold effAt
      go_simp
      exact ⟨rfl, hC.keep (by kernel_rfl) hD (by rfl) (by rfl)⟩
    simp only [Act.put, List.setIfInBounds_toArray, List.set_cons_zero, List.set_cons_succ]
    apply wpEff2_cons
    focus
      intro B L wz hL hD hC
      refine .inl ⟨by rfl, ?_⟩
      obtain ⟨y_0, y_1, y_2, y_3, y_4, y_5, y_6, y_7, y_8, y_9, y_10, y_11, y_12, n_0, n_1, n_2, n_3, n_4, n_5, n_6, n_7, n_8, n_9, n_10, n_11, n_12⟩ := hS wz hC.fr
      unfold effAt
      go_simp
      exact ⟨rfl, hC.keep (by kernel_rfl) hD (by rfl) (by rfl)⟩
    simp only [Act.put, List.setIfInBounds_toArray, List.set_cons_zero, List.set_cons_succ]
    apply wpEff2_cons
    focus
      intro B L wz hL hD hC
      have hnw := hC.nw [38, 36, 31, 29, 24, 22, 17, 14, 13, 11, 8, 6] (by kernel_rfl) (by rfl) hL
      have hfr := hC.fr
      refine .inl ⟨by rfl, ?_⟩
      unfold effAt
      go_simp
      refine (l29 wz hnw).mono ?_
      rintro e w9 ⟨rfl, q9⟩
      exact ⟨rfl, (hC.go hlast q9).keep (by kernel_rfl) hD (by rfl) (by rfl)⟩
    simp only [Act.put, List.setIfInBounds_toArray, List.set_cons_zero, List.set_cons_succ]
    apply wpEff2_cons
    focus
      intro B L wz hL hD hC
      refine .inl ⟨by rfl, ?_⟩
      obtain ⟨y_0, y_1, y_2, y_3, y_4, y_5, y_6, y_7, y_8, y_9, y_10, y_11, y_12, n_0, n_1, n_2, n_3, n_4, n_5, n_6, n_7, n_8, n_9, n_10, n_11, n_12⟩ := hS wz hC.fr
      unfold effAt
      go_simp
      exact ⟨rfl, hC.keep (by kernel_rfl) hD (by rfl) (by rfl)⟩
    simp only [Act.put, List.setIfInBounds_toArray, List.set_cons_zero, List.set_cons_succ]
    apply wpEff2_cons
    focus
      intro B L wz hL hD hC
      refine .inl ⟨by rfl, ?_⟩
      obtain ⟨y_0, y_1, y_2, y_3, y_4, y_5, y_6, y_7, y_8, y_9, y_10, y_11, y_12, n_0, n_1, n_2, n_3, n_4, n_5, n_6, n_7, n_8, n_9, n_10, n_11, n_12⟩ := hS wz hC.fr
      unfold effAt
      go_simp
      exact ⟨rfl, hC.keep (by kernel_rfl) hD (by rfl) (by rfl)⟩
    simp only [Act.put, List.setIfInBounds_toArray, List.set_cons_zero, List.set_cons_succ]
    apply wpEff2_cons
    focus
      intro B L wz hL hD hC
      refine .inl ⟨by rfl, ?_⟩
      obtain ⟨y_0, y_1, y_2, y_3, y_4, y_5, y_6, y_7, y_8, y_9, y_10, y_11, y_12, n_0, n_1, n_2, n_3, n_4, n_5, n_6, n_7, n_8, n_9, n_10, n_11, n_12⟩ := hS wz hC.fr
      unfold effAt
      go_simp
      exact ⟨rfl, hC.keep (by kernel_rfl) hD (by rfl) (by rfl)⟩
    simp only [Act.put, List.setIfInBounds_toArray, List.set_cons_zero, List.set_cons_succ]
    apply wpEff2_cons
    focus
      intro B L wz hL hD hC
      refine .inl ⟨by rfl, ?_⟩
      obtain ⟨y_0, y_1, y_2, y_3, y_4, y_5, y_6, y_7, y_8, y_9, y_10, y_11, y_12, n_0, n_1, n_2, n_3, n_4, n_5, n_6, n_7, n_8, n_9, n_10, n_11, n_12⟩ := hS wz hC.fr
      unfold effAt
      go_simp
      exact ⟨rfl, hC.keep (by kernel_rfl) hD (by rfl) (by rfl)⟩
    simp only [Act.put, List.setIfInBounds_toArray, List.set_cons_zero, List.set_cons_succ]
    apply wpEff2_cons
    focus
      intro B L wz hL hD hC
      refine .inl ⟨by rfl, ?_⟩
      obtain ⟨y_0, y_1, y_2, y_3, y_4, y_5, y_6, y_7, y_8, y_9, y_10, y_11, y_12, n_0, n_1, n_2, n_3, n_4, n_5, n_6, n_7, n_8, n_9, n_10, n_11, n_12⟩ := hS wz hC.fr
      unfold effAt
      go_simp
      exact ⟨rfl, hC.keep (by kernel_rfl) hD (by rfl) (by rfl)⟩
    simp only [Act.put, List.setIfInBounds_toArray, List.set_cons_zero, List.set_cons_succ]
    apply wpEff2_cons
    focus
      intro B L wz hL hD hC
      refine .inl ⟨by rfl, ?_⟩
      obtain ⟨y_0, y_1, y_2, y_3, y_4, y_5, y_6, y_7, y_8, y_9, y_10, y_11, y_12, n_0, n_1, n_2, n_3, n_4, n_5, n_6, n_7, n_8, n_9, n_10, n_11, n_12⟩ := hS wz hC.fr
      unfold effAt
      go_simp
      exact ⟨rfl, hC.keep (by kernel_rfl) hD (by rfl) (by rfl)⟩
    simp only [Act.put, List.setIfInBounds_toArray, List.set_cons_zero, List.set_cons_succ]
    apply wpEff2_cons
    focus
      intro B L wz hL hD hC
      have hnw := hC.nw [38, 36, 31, 29, 24, 22, 17, 14, 13, 11, 8, 6] (by kernel_rfl) (by rfl) hL
      have hfr := hC.fr
      refine .inl ⟨by rfl, ?_⟩
      unfold effAt
      go_simp
      refine (l36 wz hfr).mono ?_
      rintro e w9 ⟨rfl, q9⟩
      exact ⟨rfl, (hC.go hlast q9).keep (by kernel_rfl) hD (by rfl) (by rfl)⟩
    simp only [Act.put, List.setIfInBounds_toArray, List.set_cons_zero, List.set_cons_succ]
    apply wpEff2_cons
    focus
      intro B L wz hL hD hC
      refine .inl ⟨by rfl, ?_⟩
      obtain ⟨y_0, y_1, y_2, y_3, y_4, y_5, y_6, y_7, y_8, y_9, y_10, y_11, y_12, n_0, n_1, n_2, n_3, n_4, n_5, n_6, n_7, n_8, n_9, n_10, n_11, n_12⟩ := hS wz hC.fr
      unfold effAt
      go_simp
      exact ⟨rfl, hC.keep (by kernel_rfl) hD (by rfl) (by rfl)⟩
    simp only [Act.put, List.setIfInBounds_toArray, List.set_cons_zero, List.set_cons_succ]
    apply wpEff2_cons
    focus
      intro B L wz hL hD hC
      refine .inl ⟨by rfl, ?_⟩
      obtain ⟨y_0, y_1, y_2, y_3, y_4, y_5, y_6, y_7, y_8, y_9, y_10, y_11, y_12, n_0, n_1, n_2, n_3, n_4, n_5, n_6, n_7, n_8, n_9, n_10, n_11, n_12⟩ := hS wz hC.fr
      unfold effAt
      go_simp
      exact ⟨rfl, hC.keep (by kernel_rfl) hD (by rfl) (by rfl)⟩
    simp only [Act.put, List.setIfInBounds_toArray, List.set_cons_zero, List.set_cons_succ]
    apply wpEff2_cons
    focus
      intro B L wz hL hD hC
      refine .inl ⟨by rfl, ?_⟩
      obtain ⟨y_0, y_1, y_2, y_3, y_4, y_5, y_6, y_7, y_8, y_9, y_10, y_11, y_12, n_0, n_1, n_2, n_3, n_4, n_5, n_6, n_7, n_8, n_9, n_10, n_11, n_12⟩ := hS wz hC.fr
      unfold effAt
      go_simp
      exact ⟨rfl, hC.keep (by kernel_rfl) hD (by rfl) (by rfl)⟩
    simp only [Act.put, List.setIfInBounds_toArray, List.set_cons_zero, List.set_cons_succ]
    apply wpEff2_cons
    focus
      intro B L wz hL hD hC
      refine .inl ⟨by rfl, ?_⟩
      obtain ⟨y_0, y_1, y_2, y_3, y_4, y_5, y_6, y_7, y_8, y_9, y_10, y_11, y_12, n_0, n_1, n_2, n_3, n_4, n_5, n_6, n_7, n_8, n_9, n_10, n_11, n_12⟩ := hS wz hC.fr
      unfold effAt
      go_simp
      exact ⟨rfl, hC.keep (by kernel_rfl) hD (by rfl) (by rfl)⟩
    simp only [Act.put, List.setIfInBounds_toArray, List.set_cons_zero, List.set_cons_succ]
    refine wpEff2_free (fun b => .slice (some ⟨b.1, 0, none⟩) 2 2) ?_ ?_
    focus
      intro B L wz hL hD hC
      refine .inl ⟨by rfl, ?_⟩
      unfold effAt2
      go_simp
      exact ⟨(wz.heap.size, none), rfl, hC.put hlast ((Fr.refl (fun _ => False) wz).alloc _) _ _ (by kernel_rfl) hD (by rfl) (by intro f hf hk; simp only [List.mem_cons, List.not_mem_nil, or_false] at hf; rcases hf with rfl | rfl <;> first | exact ⟨Blk.new wz _ _, hC.fr.size⟩ | exact absurd hk (by simp [blkF]))⟩
    simp only [Act.put, List.setIfInBounds_toArray, List.set_cons_zero, List.set_cons_succ]
    apply wpEff2_cons
    focus
      intro B L wz hL hD hC
      have g1 := hC.get 1 _ rfl (hD 41 (by kernel_rfl))
      have hnw := hC.nw [38, 36, 31, 29, 24, 22, 17, 14, 13, 11, 8, 6] (by kernel_rfl) (by rfl) hL
      have hfr := hC.fr
      refine .inl ⟨by rfl, ?_⟩
      unfold effAt
      go_simp
      refine (l42 wz _ hnw g1.1).mono ?_
      rintro e w9 ⟨rfl, q9⟩
      exact ⟨rfl, hC.turn hlast q9 (by kernel_rfl) hD (by rfl)⟩
    simp only [Act.put, List.setIfInBounds_toArray, List.set_cons_zero, List.set_cons_succ]
    apply wpEff2_cons
    focus
      intro B L wz hL hD hC
      refine .inl ⟨by rfl, ?_⟩
      obtain ⟨y_0, y_1, y_2, y_3, y_4, y_5, y_6, y_7, y_8, y_9, y_10, y_11, y_12, n_0, n_1, n_2, n_3, n_4, n_5, n_6, n_7, n_8, n_9, n_10, n_11, n_12⟩ := hS wz hC.fr
      unfold effAt
      go_simp
      exact ⟨rfl, hC.keep (by kernel_rfl) hD (by rfl) (by rfl)⟩
    simp only [Act.put, List.setIfInBounds_toArray, List.set_cons_zero, List.set_cons_succ]
    apply wpEff2_cons
    focus
      intro B L wz hL hD hC
      refine .inl ⟨by rfl, ?_⟩
      obtain ⟨y_0, y_1, y_2, y_3, y_4, y_5, y_6, y_7, y_8, y_9, y_10, y_11, y_12, n_0, n_1, n_2, n_3, n_4, n_5, n_6, n_7, n_8, n_9, n_10, n_11, n_12⟩ := hS wz hC.fr
      unfold effAt
      go_simp
      exact ⟨rfl, hC.keep (by kernel_rfl) hD (by rfl) (by rfl)⟩
    simp only [Act.put, List.setIfInBounds_toArray, List.set_cons_zero, List.set_cons_succ]
    apply wpEff2_cons
    focus
      intro B L wz hL hD hC
      refine .inl ⟨by rfl, ?_⟩
      obtain ⟨y_0, y_1, y_2, y_3, y_4, y_5, y_6, y_7, y_8, y_9, y_10, y_11, y_12, n_0, n_1, n_2, n_3, n_4, n_5, n_6, n_7, n_8, n_9, n_10, n_11, n_12⟩ := hS wz hC.fr
      unfold effAt
      go_simp
      exact ⟨rfl, hC.keep (by kernel_rfl) hD (by rfl) (by rfl)⟩
    simp only [Act.put, List.setIfInBounds_toArray, List.set_cons_zero, List.set_cons_succ]
    apply wpEff2_cons
    focus
      intro B L wz hL hD hC
      refine .inl ⟨by rfl, ?_⟩
      obtain ⟨y_0, y_1, y_2, y_3, y_4, y_5, y_6, y_7, y_8, y_9, y_10, y_11, y_12, n_0, n_1, n_2, n_3, n_4, n_5, n_6, n_7, n_8, n_9, n_10, n_11, n_12⟩ := hS wz hC.fr
      unfold effAt
      go_simp
      exact ⟨rfl, hC.keep (by kernel_rfl) hD (by rfl) (by rfl)⟩
    simp only [Act.put, List.setIfInBounds_toArray, List.set_cons_zero, List.set_cons_succ]
    apply wpEff2_cons
    focus
      intro B L wz hL hD hC
      refine .inl ⟨by rfl, ?_⟩
      obtain ⟨y_0, y_1, y_2, y_3, y_4, y_5, y_6, y_7, y_8, y_9, y_10, y_11, y_12, n_0, n_1, n_2, n_3, n_4, n_5, n_6, n_7, n_8, n_9, n_10, n_11, n_12⟩ := hS wz hC.fr
      unfold effAt
      go_simp
      exact ⟨rfl, hC.keep (by kernel_rfl) hD (by rfl) (by rfl)⟩
    simp only [Act.put, List.setIfInBounds_toArray, List.set_cons_zero, List.set_cons_succ]
    apply wpEff2_cons
    focus
      intro B L wz hL hD hC
      refine .inl ⟨by rfl, ?_⟩
      obtain ⟨y_0, y_1, y_2, y_3, y_4, y_5, y_6, y_7, y_8, y_9, y_10, y_11, y_12, n_0, n_1, n_2, n_3, n_4, n_5, n_6, n_7, n_8, n_9, n_10, n_11, n_12⟩ := hS wz hC.fr
      unfold effAt
      go_simp
      exact ⟨rfl, hC.keep (by kernel_rfl) hD (by rfl) (by rfl)⟩
    simp only [Act.put, List.setIfInBounds_toArray, List.set_cons_zero, List.set_cons_succ]
    apply wpEff2_cons
    focus
      intro B L wz hL hD hC
      have hfr := hC.fr
      refine .inl ⟨by rfl, ?_⟩
      unfold effAt
      go_simp
      refine (l36 wz hfr).mono ?_
      rintro e w9 ⟨rfl, q9⟩
      exact ⟨rfl, (hC.go hlast q9).keep (by kernel_rfl) hD (by rfl) (by rfl)⟩
    simp only [Act.put, List.setIfInBounds_toArray, List.set_cons_zero, List.set_cons_succ]
    apply wpEff2_cons
    focus
      intro B L wz hL hD hC
      refine .inl ⟨by rfl, ?_⟩
      obtain ⟨y_0, y_1, y_2, y_3, y_4, y_5, y_6, y_7, y_8, y_9, y_10, y_11, y_12, n_0, n_1, n_2, n_3, n_4, n_5, n_6, n_7, n_8, n_9, n_10, n_11, n_12⟩ := hS wz hC.fr
      unfold effAt
      go_simp
      exact ⟨rfl, hC.keep (by kernel_rfl) hD (by rfl) (by rfl)⟩
    simp only [Act.put, List.setIfInBounds_toArray, List.set_cons_zero, List.set_cons_succ]
    apply wpEff2_cons
    focus
      intro B L wz hL hD hC
      refine .inl ⟨by rfl, ?_⟩
      obtain ⟨y_0, y_1, y_2, y_3, y_4, y_5, y_6, y_7, y_8, y_9, y_10, y_11, y_12, n_0, n_1, n_2, n_3, n_4, n_5, n_6, n_7, n_8, n_9, n_10, n_11, n_12⟩ := hS wz hC.fr
      unfold effAt
      go_simp
      exact ⟨rfl, hC.keep (by kernel_rfl) hD (by rfl) (by rfl)⟩
    simp only [Act.put, List.setIfInBounds_toArray, List.set_cons_zero, List.set_cons_succ]
    apply wpEff2_cons
    focus
      intro B L wz hL hD hC
      have hfr := hC.fr
      refine .inl ⟨by rfl, ?_⟩
      unfold effAt
      go_simp
      refine (haw wz).mono ?_
      rintro e w9 ⟨rfl, q9⟩
      exact ⟨rfl, (hC.go hlast q9).keep (by kernel_rfl) hD (by rfl) (by rfl)⟩
    simp only [Act.put, List.setIfInBounds_toArray, List.set_cons_zero, List.set_cons_succ]
    apply wpEff2_cons
    focus
      intro B L wz hL hD hC
      refine .inl ⟨by rfl, ?_⟩
      obtain ⟨y_0, y_1, y_2, y_3, y_4, y_5, y_6, y_7, y_8, y_9, y_10, y_11, y_12, n_0, n_1, n_2, n_3, n_4, n_5, n_6, n_7, n_8, n_9, n_10, n_11, n_12⟩ := hS wz hC.fr
      unfold effAt
      go_simp
      exact ⟨rfl, hC.keep (by kernel_rfl) hD (by rfl) (by rfl)⟩
    simp only [Act.put, List.setIfInBounds_toArray, List.set_cons_zero, List.set_cons_succ]
    apply wpEff2_cons
    focus
      intro B L wz hL hD hC
      refine .inl ⟨by rfl, ?_⟩
      obtain ⟨y_0, y_1, y_2, y_3, y_4, y_5, y_6, y_7, y_8, y_9, y_10, y_11, y_12, n_0, n_1, n_2, n_3, n_4, n_5, n_6, n_7, n_8, n_9, n_10, n_11, n_12⟩ := hS wz hC.fr
      unfold effAt
      go_simp
      exact ⟨rfl, hC.keep (by kernel_rfl) hD (by rfl) (by rfl)⟩
    simp only [Act.put, List.setIfInBounds_toArray, List.set_cons_zero, List.set_cons_succ]
    refine wpEff2_nil fun B wz hC5 => ?_
    have hnw := HQ.out _ hC5.fr
    go_wp2_with fail
    go_ret
    exact ⟨rfl, hnw⟩
end Go.Proofs.YtkjnlhidnkbelaaGreatDoor
