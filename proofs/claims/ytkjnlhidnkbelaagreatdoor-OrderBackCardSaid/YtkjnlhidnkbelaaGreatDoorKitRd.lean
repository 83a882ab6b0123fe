/- The statements' kit: reads that are lent. -/
import Derived.Test.YtkjnlhidnkbelaaGreatDoorKitA
import Derived.Test.YtkjnlhidnkbelaaGreatDoorGr4
import Derived.Test.YtkjnlhidnkbelaaGreatDoorGr2
import Derived.Test.YtkjnlhidnkbelaaGreatDoorGr3
namespace Go.Proofs.YtkjnlhidnkbelaaGreatDoor
open Go Go.RowKit

/-- The mark of a place in a list of texts. -/
def mkT (k i : Nat) : List UInt8 := [35, UInt8.ofNat k, UInt8.ofNat (k / 256), UInt8.ofNat (k / 65536), 47, UInt8.ofNat i, UInt8.ofNat (i / 256), UInt8.ofNat (i / 65536)]
/-- The mark of a place in a list of reads. -/
def mkR (k i : Nat) : Rdg := (mkT k i, false, [])
theorem mkT_len (k i : Nat) : (mkT k i).length = 8 := rfl
theorem shr8 (n : Nat) : (n : Int) >>> (8 : Nat) = ((n / 256 : Nat) : Int) := by
  rw [Int.shiftRight_eq_div_pow]; simp
theorem shr16 (n : Nat) : (n : Int) >>> (16 : Nat) = ((n / 65536 : Nat) : Int) := by
  rw [Int.shiftRight_eq_div_pow]; simp
set_option maxRecDepth 100000 in
theorem markText_any (w : World) (k i : Nat) :
    Calls Tryz.prog 108 #[.int .i64 k, .int .i64 i] w fun e w' => e = .returned (StrV (mkT k i)) ∧ Nw w w' := by
  have hcs : (#[.int .u8 35, .int .u8 ((k : Int) % 256), .int .u8 ((k : Int) / 256 % 256), .int .u8 ((k : Int) / 65536 % 256), .int .u8 47, .int .u8 ((i : Int) % 256), .int .u8 ((i : Int) / 256 % 256), .int .u8 ((i : Int) / 65536 % 256)] : Array Value) = ((mkT k i).map B8).toArray := by
    have e : ∀ n : Nat, ((UInt8.ofNat n).toNat : Int) = (n : Int) % 256 := fun n => by rw [UInt8.toNat_ofNat']; omega
    simp only [mkT, List.map_cons, List.map_nil, B8, e]
    rfl
  have hconv : ∀ j : Nat, (convert 22 9 (.slice (some ⟨w.heap.size, 0, none⟩) 8 8)).run Tryz.prog (w.alloc (.cells #[.int .u8 35, .int .u8 ((k : Int) % 256), .int .u8 ((k : Int) / 256 % 256), .int .u8 ((k : Int) / 65536 % 256), .int .u8 47, .int .u8 ((i : Int) % 256), .int .u8 ((i : Int) / 256 % 256), .int .u8 ((i : Int) / 65536 % 256)] 5)) = .ok (StrV (mkT k i)) (w.alloc (.cells #[.int .u8 35, .int .u8 ((k : Int) % 256), .int .u8 ((k : Int) / 256 % 256), .int .u8 ((k : Int) / 65536 % 256), .int .u8 47, .int .u8 ((i : Int) % 256), .int .u8 ((i : Int) / 256 % 256), .int .u8 ((i : Int) / 65536 % 256)] 5)) := fun j => by
    rw [hcs]
    exact run_text_sl _ (· = w.heap.size) (some ⟨w.heap.size, 0, none⟩) 8 (mkT k i) (sl_new w 5 ((mkT k i).map B8) _ rfl)
  have hconv := hconv 0
  clear hcs
  go_enter Tryz.func108, Tryz.ntmps108
  go_wp2_with fail
  go_ret
  exact ⟨rfl, (Fr.refl (fun _ => False) w).alloc _⟩
theorem rd_one (x : List UInt8) (b : Bool) (z : List UInt8) : (#[StrV x, .bool b, StrV z] : Array Value).all (·.oneCell') = true := by
  rw [List.all_toArray]
  simp only [List.all_cons, List.all_nil]
  rfl
set_option maxRecDepth 100000 in
theorem markRead_any (w : World) (k i : Nat) :
    Calls Tryz.prog 72 #[.int .i64 k, .int .i64 i] w fun e w' => e = .returned (.agg #[StrV (mkT k i), .bool false, .string ⟨#[]⟩]) ∧ Nw w w' := by
  have hone := rd_one (mkT k i) false []
  have hT := Blk.new w 93 #[.string ⟨#[]⟩, .bool false, .string ⟨#[]⟩]
  have hmk := markText_any (w.alloc (.cells #[.string ⟨#[]⟩, .bool false, .string ⟨#[]⟩] 93)) k i
  go_enter Tryz.func72, Tryz.ntmps72
  go_wp2_with fail
  refine hmk.mono ?_
  rintro e w1 ⟨rfl, q1⟩
  have q01 : Nw w w1 := ((Fr.refl (fun _ => False) w).alloc _).tr q1
  have hT1 := hT.fr q1 (fun h => h)
  have hE := hT1.row #[StrV (mkT k i), .bool false, StrV []]
  go_wp2_with (refine wpList_store_row rfl 93 _ _ rfl w.heap.size _ rfl rfl 93 _ hT1 rd_size rfl hone ?_)
  refine bodyPost_ret (v := .agg #[StrV (mkT k i), .bool false, StrV []]) ?_ rfl ?_
  · exact results_cell_row rfl _ _ w.heap.size 93 _ (0, 0) _ rfl hE Tryz.underlying93 rfl rd_size
  exact ⟨rfl, q01.setRow (.inr (Nat.le_refl _)) _⟩

/-- The marks behind. -/
def behindR : List Rdg := (List.range 12).map (mkR 1)
/-- What is lent: reads with marks in their spare room. -/
def LentRd (w : World) (g : Nat) (l : List Rdg) : Prop := Own w 93 3 (some ⟨g, 0, none⟩) (l.length + 12) (l.length + 12) (rdgsCells (l ++ behindR))
def LentRdRel (w : World) (g : Nat) (l : List Rdg) (v i : Value) (wr : World) : Prop :=
  ∃ k : Nat, k ≤ 12 ∧ i = .int .i64 k ∧ v = .slice (some ⟨g, 0, none⟩) (l.length + k) (l.length + 12) ∧ Own wr 93 3 (some ⟨g, 0, none⟩) (l.length + k) (l.length + 12) (rdgsCells (l ++ (List.range k).map (mkR 1))) ∧ Nw w wr
theorem under_reads : Tryz.prog.underlying 27 = some (.slice (Tryz.prog.elem 27)) := by kernel_rfl
theorem size_reads (w : World) : (sizeOf (Tryz.prog.elem 27)).run Tryz.prog w = .ok 3 w := by kernel_rfl
set_option maxRecDepth 100000 in
set_option maxHeartbeats 1000000 in
theorem lent_reads (w : World) (F : Nat → Prop) (A : Option Addr) (c : Nat) (l : List Rdg) (h : Sl w F A (rdgsCells l)) (hsz : l.length ≤ 1000000000) :
    Calls Tryz.prog 25 #[.slice A l.length c] w fun e w' => ∃ g, e = .returned (.slice (some ⟨g, 0, none⟩) l.length (l.length + 12)) ∧ LentRd w' g l ∧ Nw w w' ∧ w.heap.size ≤ g := by
  have hlen := rdgsCells_len l
  obtain ⟨n, hn⟩ : ∃ n, n = l.length := ⟨_, rfl⟩
  rw [← hn] at hsz hlen ⊢
  have HN := Lib.hid hn
  clear hn
  go_enter Tryz.func25, Tryz.ntmps25
  go_wp2_with (first | (at_make; refine wl_make0 rfl _ _ _ rfl 40 (.agg #[.string ⟨#[]⟩, .bool false, .string ⟨#[]⟩]) Tryz.underlying27 info_read .i64 .i64 ((n : Int) + 12) (n + 12) rfl rfl (by omega) (by omega) (by unfold maxLen; omega) ?_; intro w1 ho1 hq1; have hs1 := h.fr hq1 (fun _ _ h => h)) | (at_builtin; refine wl_append2 rfl _ _ _ rfl 40 (.agg #[.string ⟨#[]⟩, .bool false, .string ⟨#[]⟩]) Tryz.underlying27 info_read rfl (by decide) rfl ho1 rfl hs1 hlen (rdgsCells_one l) (by omega) (by unfold maxLen; omega) ?_; intro A' cap' w2 hap))
  rcases hap with ⟨ho2, _, ⟨_, rfl, rfl, hf2⟩ | ⟨hlt, _⟩⟩
  rotate_left
  · omega
  simp only [Nat.zero_add, List.nil_append] at ho2 ⊢
  have hq2 : Nw w w2 := hq1.new hf2 (fun k hk => by rw [(inA_some _ _).1 hk]; exact Nat.le_refl _)
  clear hf2 ho1 hs1 hq1
  go_wp2_with fail
  go_loopw [3, 4] (fun v i wr => LentRdRel w w.heap.size l v i wr) (fun _ i _ => 12 - (intOf i).toNat)
  case atStart => exact ⟨0, by omega, rfl, by rw [← HN.out]; rfl, by rw [← HN.out]; simpa using ho2, hq2⟩
  case round =>
    obtain ⟨k, hk, rfl, rfl, ho, hq⟩ := hrel
    rw [← HN.out] at ho ⊢
    by_cases hlt : k < 12
    · have hmk := fun w1 => markRead_any w1 1 k
      have HMK := Lib.hid hmk
      clear hmk
      go_wp2_with (first | (go_at_call 72; refine (HMK.out _).mono ?_; rintro e w3 ⟨rfl, q3⟩; have ho3 := ho.fr q3 (fun _ _ h => h); have hnl := sl_new w3 93 (rdgCells (mkR 1 k)) _ rfl) | (at_builtin; refine wl_append2 rfl _ _ _ rfl 40 (.agg #[.string ⟨#[]⟩, .bool false, .string ⟨#[]⟩]) Tryz.underlying27 info_read rfl (by decide) rfl (ho3.alloc _) rfl hnl rfl (by simp [rdgCells, mkR, Value.oneCell']) (by omega) (by unfold maxLen; omega) ?_; intro A' cap' w2 hap))
      rcases hap with ⟨ho4, _, ⟨_, rfl, rfl, hf3⟩ | ⟨hlt, _⟩⟩
      rotate_left
      · omega
      have hq3 : Nw w w2 := ((hq.tr q3).alloc _).new hf3 (fun k hk => by rw [(inA_some _ _).1 hk]; exact Nat.le_refl _)
      go_wp2_with fail
      go_roundw
      case rel =>
        refine ⟨k + 1, by omega, by go_num, by rw [← HN.out]; simp [Nat.add_assoc], ?_, hq3⟩
        rw [List.range_succ, ← HN.out]
        have e : n + (k + 1) = n + k + 1 := by omega
        rw [e, List.map_append, ← List.append_assoc, rdgsCells_append]
        exact ho4
      case measure => simp [intOf]; omega
    · have hk12 : k = 12 := by omega
      subst hk12
      have hs := slice_h (P := Tryz.prog) 27 under_reads 3 size_reads (some ⟨w.heap.size, 0, none⟩) (n + 12) (n + 12) n (by omega)
      go_wp2_with fail
      go_ret
      exact ⟨_, rfl, by unfold LentRd; rw [← HN.out]; exact ho, hq, Nat.le_refl _⟩
theorem LentRd.fr {w w' : World} {S : Nat → Prop} {g : Nat} {l : List Rdg} (h : LentRd w g l) (hf : Fr S w w') (hn : ¬ S g) : LentRd w' g l := Own.fr h hf (fun k hk => by rw [(inA_some _ _).1 hk]; exact hn)
theorem LentRd.row {w : World} {g : Nat} {l : List Rdg} (h : LentRd w g l) : Sl w (· = g) (some ⟨g, 0, none⟩) (rdgsCells l) := by
  have h1 := (Own.sl h).pre (k := l.length * 3)
  rw [rdgsCells_append, List.take_left' (rdgsCells_len l)] at h1
  exact h1.mono fun k hk _ => (inA_some _ _).1 hk
theorem behindR_len : behindR.length = 12 := by simp [behindR]
def KeptRdRel (w : World) (n : Nat) (i : Value) (wr : World) : Prop := ∃ k : Nat, k ≤ n + 12 ∧ i = .int .i64 k ∧ Nw w wr
set_option maxRecDepth 100000 in
set_option maxHeartbeats 2000000 in
theorem kept_reads (w : World) (F : Nat → Prop) (g : Nat) (A2 : Option Addr) (c2 : Nat) (l : List Rdg) (h1 : LentRd w g l) (h2 : Sl w F A2 (rdgsCells l)) (hsz : l.length ≤ 1000000000) :
    Calls Tryz.prog 30 #[.slice (some ⟨g, 0, none⟩) l.length (l.length + 12), .slice A2 l.length c2] w fun e w' => e = .returned (.bool true) ∧ Nw w w' := by
  have hs := slice_h (P := Tryz.prog) 27 under_reads 3 size_reads (some ⟨g, 0, none⟩) l.length (l.length + 12) (l.length + 12) (Nat.le_refl _)
  obtain ⟨n, hn⟩ : ∃ n, n = l.length := ⟨_, rfl⟩
  rw [← hn] at hsz hs ⊢
  have HN := Lib.hid hn
  clear hn
  have e12 : (((n + 12 : Nat)) : Int) = (n : Int) + 12 := by omega
  go_enter Tryz.func30, Tryz.ntmps30
  go_wp2_with fail
  go_loopw [6] (fun i wr => KeptRdRel w n i wr) (fun i _ => n + 12 - (intOf i).toNat)
  case atStart => exact ⟨0, by omega, rfl, Fr.refl _ _⟩
  case round =>
    obtain ⟨k, hk, rfl, hq⟩ := hrel
    by_cases hlt : k < n + 12
    · have hl12 : k < (l ++ behindR).length := by rw [List.length_append, behindR_len, ← HN.out]; exact hlt
      obtain ⟨b1, o1, hbo, _, p0, p1, p2⟩ := (Own.sl (h1.fr hq (fun h => h))).rdg hl12
      injection hbo with hbo
      injection hbo with e1 e2 _
      subst e1
      subst e2
      have hi0 : (k : Int) < (n : Int) + 12 := by omega
      by_cases hlt2 : k < n
      · have hkl : k < l.length := by rw [← HN.out]; exact hlt2
        obtain ⟨b2, o2, rfl, _, r0, r1, r2⟩ := (h2.fr hq (fun _ _ h => h)).rdg hkl
        rw [List.getElem_append_left hkl] at p0 p1 p2
        obtain ⟨x, hx⟩ : ∃ x, l[k] = x := ⟨_, rfl⟩
        rw [hx] at p0 p1 p2 r0 r1 r2
        clear hx
        have hi1 : (k : Int) < (n : Int) := by omega
        have hi2 : decide ((n : Int) ≤ (k : Int)) = false := by simp; omega
        have hi3 : decide (n ≤ k) = false := by simp; omega
        have hi4 : decide ((k : Int) < (n : Int)) = true := decide_eq_true hi1
        have hi5 : decide (k < n) = true := decide_eq_true hlt2
        have heq := fun (m : Later wr) => read_eql m.at_ x x
        simp only [decide_true] at heq
        have P0 := fun (m : Later wr) => m.cell p0
        have P1 := fun (m : Later wr) => m.cell p1
        have P2 := fun (m : Later wr) => m.cell p2
        have R0 := fun (m : Later wr) => m.cell r0
        have R1 := fun (m : Later wr) => m.cell r1
        have R2 := fun (m : Later wr) => m.cell r2
        simp only [Nat.zero_add] at P0 P1 P2
        clear p0 p1 p2 r0 r1 r2
        go_wp2_with fail
        refine wp_region_later (by kernel_rfl) (by kernel_rfl) ?_
        repeat (go_big_quiet_step (fail))
        refine wpQuiet_later fun w5 q5 => ?_
        go_wp2_with fail
        go_roundw
        case rel => exact ⟨k + 1, by omega, by go_num, hq.tr q5⟩
        case measure => simp [intOf]; omega
      · rw [List.getElem_append_right (by rw [← HN.out]; omega)] at p0 p1 p2
        have hv : behindR[k - l.length]'(by rw [behindR_len, ← HN.out]; omega) = mkR 1 (k - n) := by simp [behindR, ← HN.out]
        rw [hv] at p0 p1 p2
        clear hv
        have hi1 : decide ((k : Int) < (n : Int)) = false := by simp; omega
        have hi3 : decide (k < n) = false := by simp; omega
        have hi2 : (n : Int) ≤ (k : Int) := by omega
        have hi4 : decide ((n : Int) ≤ (k : Int)) = true := decide_eq_true hi2
        have hi5 : decide (n ≤ k) = true := decide_eq_true (by omega)
        obtain ⟨j, hj⟩ : ∃ j, j = k - n := ⟨_, rfl⟩
        rw [← hj] at p0 p1 p2
        have hsub : wrap64 ((k : Int) - (n : Int)) = (j : Int) := by unfold wrap64; omega
        have hsub2 : IntKind.i64.wrap ((k : Int) - (n : Int)) = (j : Int) := by rw [IntWalk.i64_in _ (by omega)]; omega
        have hmk := fun (m : Later wr) => markRead_any m.at_ 1 j
        have heq : ∀ (m : Later wr), (binOp .eql 93 (.agg #[StrV (mkT 1 j), .bool false, .string ⟨#[]⟩]) (.agg #[StrV (mkT 1 j), .bool false, .string ⟨#[]⟩])).run Tryz.prog m.at_ = .ok (.bool true) m.at_ := fun m => by
          have := read_eql m.at_ (mkR 1 j) (mkR 1 j)
          simp only [decide_true] at this
          exact this
        have p0 : wr.cell? _ = some (StrV (mkT 1 j)) := p0
        have p1 : wr.cell? _ = some (.bool false) := p1
        have p2 : wr.cell? _ = some (.string ⟨#[]⟩) := p2
        have hju : ((j : Nat) : Int) = (k : Int) - (n : Int) := by omega
        rw [hju] at hmk
        have P0 := fun (m : Later wr) => m.cell p0
        have P1 := fun (m : Later wr) => m.cell p1
        have P2 := fun (m : Later wr) => m.cell p2
        simp only [Nat.zero_add] at P0 P1 P2
        have HMK := Lib.hid hmk
        clear p0 p1 p2 hmk hju hj hsub hsub2
        have hsub2 : IntKind.i64.wrap ((k : Int) - (n : Int)) = (k : Int) - (n : Int) := IntWalk.i64_in _ (by omega)
        go_wp2_with fail
        refine wp_region_later (by kernel_rfl) (by kernel_rfl) ?_
        repeat (go_big_quiet_step ((go_at_call 72; exact Later.call (HMK.out _))))
        refine wpQuiet_later fun w5 q5 => ?_
        go_wp2_with fail
        go_roundw
        case rel => exact ⟨k + 1, by omega, by go_num, hq.tr q5⟩
        case measure => simp [intOf]; omega
    · go_wp2_with fail
      go_ret
      exact ⟨rfl, hq⟩
end Go.Proofs.YtkjnlhidnkbelaaGreatDoor
