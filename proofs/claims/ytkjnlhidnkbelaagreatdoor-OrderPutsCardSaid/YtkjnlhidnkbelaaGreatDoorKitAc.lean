/- The statements' kit: acts that are lent. -/
import Derived.Test.YtkjnlhidnkbelaaGreatDoorKitRd
import Derived.Test.YtkjnlhidnkbelaaGreatDoorGr3
namespace Go.Proofs.YtkjnlhidnkbelaaGreatDoor
open Go Go.RowKit

/-- The mark of a place in a list of acts. -/
def mkA (k i : Nat) : ActT := ⟨0, mkT k i, [], 0⟩
theorem ac_one (a : Int) (x : List UInt8) (z : List UInt8) (b : Int) : (#[.int .u8 a, StrV x, StrV z, I64 b] : Array Value).all (·.oneCell') = true := by
  rw [List.all_toArray]
  simp only [List.all_cons, List.all_nil]
  rfl
set_option maxRecDepth 100000 in
theorem markAct_any (w : World) (k i : Nat) :
    Calls Tryz.prog 71 #[.int .i64 k, .int .i64 i] w fun e w' => e = .returned (.agg #[.int .u8 0, StrV (mkT k i), .string ⟨#[]⟩, .int .i64 0]) ∧ Nw w w' := by
  have hone := ac_one 0 (mkT k i) [] 0
  have hT := Blk.new w 91 #[.int .u8 0, .string ⟨#[]⟩, .string ⟨#[]⟩, .int .i64 0]
  have hmk := markText_any (w.alloc (.cells #[.int .u8 0, .string ⟨#[]⟩, .string ⟨#[]⟩, .int .i64 0] 91)) k i
  go_enter Tryz.func71, Tryz.ntmps71
  go_wp2_with fail
  refine hmk.mono ?_
  rintro e w1 ⟨rfl, q1⟩
  have q01 : Nw w w1 := ((Fr.refl (fun _ => False) w).alloc _).tr q1
  have hT1 := hT.fr q1 (fun h => h)
  have hE := hT1.row #[.int .u8 0, StrV (mkT k i), StrV [], I64 0]
  go_wp2_with (refine wpList_store_row rfl 91 _ _ rfl w.heap.size _ rfl rfl 91 _ hT1 act_size rfl hone ?_)
  refine bodyPost_ret (v := .agg #[.int .u8 0, StrV (mkT k i), StrV [], I64 0]) ?_ rfl ?_
  · exact results_cell_row rfl _ _ w.heap.size 91 _ (0, 0) _ rfl hE Tryz.underlying91 rfl act_size
  exact ⟨rfl, q01.setRow (.inr (Nat.le_refl _)) _⟩

/-- The marks behind. -/
def behindA : List ActT := (List.range 12).map (mkA 1)
/-- What is lent: reads with marks in their spare room. -/
def LentAc (w : World) (g : Nat) (l : List ActT) : Prop := Own w 91 4 (some ⟨g, 0, none⟩) (l.length + 12) (l.length + 12) (actsCells (l ++ behindA))
def LentAcRel (w : World) (g : Nat) (l : List ActT) (v i : Value) (wr : World) : Prop :=
  ∃ k : Nat, k ≤ 12 ∧ i = .int .i64 k ∧ v = .slice (some ⟨g, 0, none⟩) (l.length + k) (l.length + 12) ∧ Own wr 91 4 (some ⟨g, 0, none⟩) (l.length + k) (l.length + 12) (actsCells (l ++ (List.range k).map (mkA 1))) ∧ Nw w wr
theorem under_acts : Tryz.prog.underlying 26 = some (.slice (Tryz.prog.elem 26)) := by kernel_rfl
theorem size_acts (w : World) : (sizeOf (Tryz.prog.elem 26)).run Tryz.prog w = .ok 4 w := by kernel_rfl
set_option maxRecDepth 100000 in
set_option maxHeartbeats 1000000 in
theorem lent_acts (w : World) (F : Nat → Prop) (A : Option Addr) (c : Nat) (l : List ActT) (h : Sl w F A (actsCells l)) (hsz : l.length ≤ 1000000000) :
    Calls Tryz.prog 24 #[.slice A l.length c] w fun e w' => ∃ g, e = .returned (.slice (some ⟨g, 0, none⟩) l.length (l.length + 12)) ∧ LentAc w' g l ∧ Nw w w' ∧ w.heap.size ≤ g := by
  have hlen := actsCells_len l
  obtain ⟨n, hn⟩ : ∃ n, n = l.length := ⟨_, rfl⟩
  rw [← hn] at hsz hlen ⊢
  have HN := Lib.hid hn
  clear hn
  go_enter Tryz.func24, Tryz.ntmps24
  go_wp2_with (first | (at_make; refine wl_make0 rfl _ _ _ rfl 48 (.agg #[.int .u8 0, .string ⟨#[]⟩, .string ⟨#[]⟩, .int .i64 0]) Tryz.underlying26 info_act .i64 .i64 ((n : Int) + 12) (n + 12) rfl rfl (by omega) (by omega) (by unfold maxLen; omega) ?_; intro w1 ho1 hq1; have hs1 := h.fr hq1 (fun _ _ h => h)) | (at_builtin; refine wl_append2 rfl _ _ _ rfl 48 (.agg #[.int .u8 0, .string ⟨#[]⟩, .string ⟨#[]⟩, .int .i64 0]) Tryz.underlying26 info_act rfl (by decide) rfl ho1 rfl hs1 hlen (actsCells_one l) (by omega) (by unfold maxLen; omega) ?_; intro A' cap' w2 hap))
  rcases hap with ⟨ho2, _, ⟨_, rfl, rfl, hf2⟩ | ⟨hlt, _⟩⟩
  rotate_left
  · omega
  simp only [Nat.zero_add, List.nil_append] at ho2 ⊢
  have hq2 : Nw w w2 := hq1.new hf2 (fun k hk => by rw [(inA_some _ _).1 hk]; exact Nat.le_refl _)
  clear hf2 ho1 hs1 hq1
  go_wp2_with fail
  go_loopw [3, 4] (fun v i wr => LentAcRel w w.heap.size l v i wr) (fun _ i _ => 12 - (intOf i).toNat)
  case atStart => exact ⟨0, by omega, rfl, by rw [← HN.out]; rfl, by rw [← HN.out]; simpa using ho2, hq2⟩
  case round =>
    obtain ⟨k, hk, rfl, rfl, ho, hq⟩ := hrel
    rw [← HN.out] at ho ⊢
    by_cases hlt : k < 12
    · have hmk := fun w1 => markAct_any w1 1 k
      have HMK := Lib.hid hmk
      clear hmk
      go_wp2_with (first | (go_at_call 71; refine (HMK.out _).mono ?_; rintro e w3 ⟨rfl, q3⟩; have ho3 := ho.fr q3 (fun _ _ h => h); have hnl := sl_new w3 91 (actCells (mkA 1 k)) _ rfl) | (at_builtin; refine wl_append2 rfl _ _ _ rfl 48 (.agg #[.int .u8 0, .string ⟨#[]⟩, .string ⟨#[]⟩, .int .i64 0]) Tryz.underlying26 info_act rfl (by decide) rfl (ho3.alloc _) rfl hnl rfl (by simp [actCells, mkA, Value.oneCell']) (by omega) (by unfold maxLen; omega) ?_; intro A' cap' w2 hap))
      rcases hap with ⟨ho4, _, ⟨_, rfl, rfl, hf3⟩ | ⟨hlt, _⟩⟩
      rotate_left
      · omega
      have hq3 : Nw w w2 := ((hq.tr q3).alloc _).new hf3 (fun k hk => by rw [(inA_some _ _).1 hk]; exact Nat.le_refl _)
      go_wp2_with fail
      go_roundw
      case rel =>
        refine ⟨k + 1, by omega, by go_num, by rw [← HN.out]; simp [Nat.add_assoc], ?_, hq3⟩
        rw [List.range_succ, ← HN.out]
        have e : n + (k + 1) = n + k + 1 := by omega
        rw [e, List.map_append, ← List.append_assoc, actsCells_append]
        exact ho4
      case measure => simp [intOf]; omega
    · have hk12 : k = 12 := by omega
      subst hk12
      have hs := slice_h (P := Tryz.prog) 26 under_acts 4 size_acts (some ⟨w.heap.size, 0, none⟩) (n + 12) (n + 12) n (by omega)
      go_wp2_with fail
      go_ret
      exact ⟨_, rfl, by unfold LentAc; rw [← HN.out]; exact ho, hq, Nat.le_refl _⟩
theorem LentAc.fr {w w' : World} {S : Nat → Prop} {g : Nat} {l : List ActT} (h : LentAc w g l) (hf : Fr S w w') (hn : ¬ S g) : LentAc w' g l := Own.fr h hf (fun k hk => by rw [(inA_some _ _).1 hk]; exact hn)
theorem LentAc.row {w : World} {g : Nat} {l : List ActT} (h : LentAc w g l) : Sl w (· = g) (some ⟨g, 0, none⟩) (actsCells l) := by
  have h1 := (Own.sl h).pre (k := l.length * 4)
  rw [actsCells_append, List.take_left' (actsCells_len l)] at h1
  exact h1.mono fun k hk _ => (inA_some _ _).1 hk
theorem behindA_len : behindA.length = 12 := by simp [behindA]
def KeptAcRel (w : World) (n : Nat) (i : Value) (wr : World) : Prop := ∃ k : Nat, k ≤ n + 12 ∧ i = .int .i64 k ∧ Nw w wr
set_option maxRecDepth 100000 in
set_option maxHeartbeats 2000000 in
theorem kept_acts (w : World) (F : Nat → Prop) (g : Nat) (A2 : Option Addr) (c2 : Nat) (l : List ActT) (h1 : LentAc w g l) (h2 : Sl w F A2 (actsCells l)) (hsz : l.length ≤ 1000000000) :
    Calls Tryz.prog 29 #[.slice (some ⟨g, 0, none⟩) l.length (l.length + 12), .slice A2 l.length c2] w fun e w' => e = .returned (.bool true) ∧ Nw w w' := by
  have hs := slice_h (P := Tryz.prog) 26 under_acts 4 size_acts (some ⟨g, 0, none⟩) l.length (l.length + 12) (l.length + 12) (Nat.le_refl _)
  obtain ⟨n, hn⟩ : ∃ n, n = l.length := ⟨_, rfl⟩
  rw [← hn] at hsz hs ⊢
  have HN := Lib.hid hn
  clear hn
  have e12 : (((n + 12 : Nat)) : Int) = (n : Int) + 12 := by omega
  go_enter Tryz.func29, Tryz.ntmps29
  go_wp2_with fail
  go_loopw [6] (fun i wr => KeptAcRel w n i wr) (fun i _ => n + 12 - (intOf i).toNat)
  case atStart => exact ⟨0, by omega, rfl, Fr.refl _ _⟩
  case round =>
    obtain ⟨k, hk, rfl, hq⟩ := hrel
    by_cases hlt : k < n + 12
    · have hl12 : k < (l ++ behindA).length := by rw [List.length_append, behindA_len, ← HN.out]; exact hlt
      obtain ⟨b1, o1, hbo, _, p0, p1, p2, p3⟩ := (Own.sl (h1.fr hq (fun h => h))).act hl12
      injection hbo with hbo
      injection hbo with e1 e2 _
      subst e1
      subst e2
      have hi0 : (k : Int) < (n : Int) + 12 := by omega
      by_cases hlt2 : k < n
      · have hkl : k < l.length := by rw [← HN.out]; exact hlt2
        obtain ⟨b2, o2, rfl, _, r0, r1, r2, r3⟩ := (h2.fr hq (fun _ _ h => h)).act hkl
        rw [List.getElem_append_left hkl] at p0 p1 p2 p3
        obtain ⟨x, hx⟩ : ∃ x, l[k] = x := ⟨_, rfl⟩
        rw [hx] at p0 p1 p2 p3 r0 r1 r2 r3
        clear hx
        have hi1 : (k : Int) < (n : Int) := by omega
        have hi2 : decide ((n : Int) ≤ (k : Int)) = false := by simp; omega
        have hi3 : decide (n ≤ k) = false := by simp; omega
        have hi4 : decide ((k : Int) < (n : Int)) = true := decide_eq_true hi1
        have hi5 : decide (k < n) = true := decide_eq_true hlt2
        have heq := fun (m : Later wr) => act_eql m.at_ x x
        simp only [decide_true] at heq
        have P0 := fun (m : Later wr) => m.cell p0
        have P1 := fun (m : Later wr) => m.cell p1
        have P2 := fun (m : Later wr) => m.cell p2
        have P3 := fun (m : Later wr) => m.cell p3
        have R0 := fun (m : Later wr) => m.cell r0
        have R1 := fun (m : Later wr) => m.cell r1
        have R2 := fun (m : Later wr) => m.cell r2
        have R3 := fun (m : Later wr) => m.cell r3
        simp only [Nat.zero_add] at P0 P1 P2 P3
        clear p0 p1 p2 p3 r0 r1 r2 r3
        go_wp2_with fail
        refine wp_region_later (by kernel_rfl) (by kernel_rfl) ?_
        repeat (go_big_quiet_step (fail))
        refine wpQuiet_later fun w5 q5 => ?_
        go_wp2_with fail
        go_roundw
        case rel => exact ⟨k + 1, by omega, by go_num, hq.tr q5⟩
        case measure => simp [intOf]; omega
      · rw [List.getElem_append_right (by rw [← HN.out]; omega)] at p0 p1 p2 p3
        have hv : behindA[k - l.length]'(by rw [behindA_len, ← HN.out]; omega) = mkA 1 (k - n) := by simp [behindA, ← HN.out]
        rw [hv] at p0 p1 p2 p3
        clear hv
        have hi1 : decide ((k : Int) < (n : Int)) = false := by simp; omega
        have hi3 : decide (k < n) = false := by simp; omega
        have hi2 : (n : Int) ≤ (k : Int) := by omega
        have hi4 : decide ((n : Int) ≤ (k : Int)) = true := decide_eq_true hi2
        have hi5 : decide (n ≤ k) = true := decide_eq_true (by omega)
        obtain ⟨j, hj⟩ : ∃ j, j = k - n := ⟨_, rfl⟩
        rw [← hj] at p0 p1 p2 p3
        have hsub : wrap64 ((k : Int) - (n : Int)) = (j : Int) := by unfold wrap64; omega
        have hsub2 : IntKind.i64.wrap ((k : Int) - (n : Int)) = (j : Int) := by rw [IntWalk.i64_in _ (by omega)]; omega
        have hmk := fun (m : Later wr) => markAct_any m.at_ 1 j
        have heq : ∀ (m : Later wr), (binOp .eql 91 (.agg #[.int .u8 0, StrV (mkT 1 j), .string ⟨#[]⟩, .int .i64 0]) (.agg #[.int .u8 0, StrV (mkT 1 j), .string ⟨#[]⟩, .int .i64 0])).run Tryz.prog m.at_ = .ok (.bool true) m.at_ := fun m => by
          have := act_eql m.at_ (mkA 1 j) (mkA 1 j)
          simp only [decide_true] at this
          exact this
        have p0 : wr.cell? _ = some (.int .u8 0) := p0
        have p1 : wr.cell? _ = some (StrV (mkT 1 j)) := p1
        have p2 : wr.cell? _ = some (.string ⟨#[]⟩) := p2
        have p3 : wr.cell? _ = some (.int .i64 0) := p3
        have hju : ((j : Nat) : Int) = (k : Int) - (n : Int) := by omega
        rw [hju] at hmk
        have P0 := fun (m : Later wr) => m.cell p0
        have P1 := fun (m : Later wr) => m.cell p1
        have P2 := fun (m : Later wr) => m.cell p2
        have P3 := fun (m : Later wr) => m.cell p3
        simp only [Nat.zero_add] at P0 P1 P2 P3
        have HMK := Lib.hid hmk
        clear p0 p1 p2 p3 hmk hju hj hsub hsub2
        have hsub2 : IntKind.i64.wrap ((k : Int) - (n : Int)) = (k : Int) - (n : Int) := IntWalk.i64_in _ (by omega)
        go_wp2_with fail
        refine wp_region_later (by kernel_rfl) (by kernel_rfl) ?_
        repeat (go_big_quiet_step ((go_at_call 71; exact Later.call (HMK.out _))))
        refine wpQuiet_later fun w5 q5 => ?_
        go_wp2_with fail
        go_roundw
        case rel => exact ⟨k + 1, by omega, by go_num, hq.tr q5⟩
        case measure => simp [intOf]; omega
    · go_wp2_with fail
      go_ret
      exact ⟨rfl, hq⟩
end Go.Proofs.YtkjnlhidnkbelaaGreatDoor
