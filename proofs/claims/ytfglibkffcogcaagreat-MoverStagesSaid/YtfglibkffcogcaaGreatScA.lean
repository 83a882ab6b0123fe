/- Handoffs: the pieces by which the program says whether one is right. -/
import Derived.Test.YtfglibkffcogcaaGreatSpC
import Derived.Test.YtfglibkffcogcaaGreatMapU
namespace Go.Proofs.YtfglibkffcogcaaGreat
open Go Go.RowKit

set_option maxRecDepth 100000 in
theorem within_any (w : World) (n lo hi : Int) : Calls Tryz.prog 90 #[.int .i64 n, .int .i64 lo, .int .i64 hi] w fun e w' => e = .returned (.bool (decide (lo ≤ n) && decide (n ≤ hi))) ∧ w = w' := by
  by_cases h1 : lo ≤ n
  · rw [decide_eq_true h1]
    go_enter Tryz.func90, Tryz.ntmps90
    go_wp2_with fail
    go_ret
    exact ⟨by simp, rfl⟩
  · have h2 := decide_eq_false h1
    rw [h2]
    go_enter Tryz.func90, Tryz.ntmps90
    go_wp2_with fail
    go_ret
    exact ⟨by simp, rfl⟩
def IxTo (w : World) (l : List Int) (v : Int) (i : Value) (wx : World) : Prop := ∃ k : Nat, k ≤ l.length ∧ i = .int .i64 k ∧ (∀ j (h : j < l.length), j < k → v ≠ l[j]) ∧ Nw w wx
set_option maxRecDepth 100000 in
theorem indexStage_any (w : World) (F : Nat → Prop) (A : Option Addr) (c : Nat) (l : List Int) (v : Int) (hs : Sl w F A (l.map U8V)) (hl : l.length ≤ 1000000000) :
    Calls Tryz.prog 125 #[.slice A l.length c, .int .u8 v] w fun e w' => ∃ i : Int, e = .returned (.int .i64 i) ∧ (0 ≤ i ↔ v ∈ l) ∧ Nw w w' := by
  go_enter Tryz.func125, Tryz.ntmps125
  go_wp2_with fail
  go_loopw [8] (fun i wx => IxTo w l v i wx) (fun i _ => l.length - (intOf i).toNat)
  case atStart => exact ⟨0, Nat.zero_le _, rfl, fun _ _ h => by omega, Fr.refl _ _⟩
  case round =>
    obtain ⟨k, hk, rfl, hok, hq⟩ := hrel
    have HK := Lib.hid hok
    clear hok
    by_cases hlt : k < l.length
    · obtain ⟨b, o, rfl, _, hc1⟩ := (hs.fr hq (fun _ _ h => h)).get hlt
      obtain ⟨x, hx⟩ : ∃ x, l[k] = x := ⟨_, rfl⟩
      rw [hx] at hc1
      have HX := Lib.hid hx
      clear hx
      by_cases hvx : v = x
      · subst hvx
        go_wp2_with fail
        go_ret
        exact ⟨k, rfl, ⟨fun _ => by rw [← HX.out]; exact List.getElem_mem hlt, fun _ => by omega⟩, hq⟩
      · go_wp2_with fail
        go_roundw
        case rel =>
          refine ⟨k + 1, by omega, rfl, fun j hj hjk => ?_, hq⟩
          by_cases hjk2 : j < k
          · exact HK.out j hj hjk2
          · obtain rfl : j = k := by omega
            rw [HX.out]
            exact hvx
        case measure => simp [intOf]; omega
    · go_wp2_with fail
      go_ret
      refine ⟨-1, rfl, ⟨fun h => by omega, fun h => ?_⟩, hq⟩
      obtain ⟨j, hj, rfl⟩ := List.mem_iff_getElem.1 h
      exact absurd rfl (HK.out j hj (by omega))
set_option maxRecDepth 100000 in
theorem containsStage_any (w : World) (F : Nat → Prop) (A : Option Addr) (c : Nat) (l : List Int) (v : Int) (hs : Sl w F A (l.map U8V)) (hl : l.length ≤ 1000000000) :
    Calls Tryz.prog 116 #[.slice A l.length c, .int .u8 v] w fun e w' => e = .returned (.bool (decide (v ∈ l))) ∧ Nw w w' := by
  go_enter Tryz.func116, Tryz.ntmps116
  go_wp2_with fail
  refine (indexStage_any w F A c l v hs hl).mono ?_
  rintro e w1 ⟨i, rfl, hi, q1⟩
  have hd : decide (0 ≤ i) = decide (v ∈ l) := by
    by_cases h : v ∈ l
    · rw [decide_eq_true h, decide_eq_true (hi.2 h)]
    · rw [decide_eq_false h, decide_eq_false (fun h2 => h (hi.1 h2))]
  have HD := Lib.hid hd
  clear hd hi
  go_wp2_with fail
  go_ret
  exact ⟨congrArg (fun b => Ending.returned (.bool b)) HD.out, q1⟩
/-- A handoff's eight cells. -/
abbrev schA (x : Sch) : Array Value := #[I64 x.num, StrV x.lo, StrV x.hi, I64 x.src, I64 x.dst, I64 x.epoch, I64 x.under, U8V x.stage]
def turnedB (x : Sch) : Bool := decide (4 ≤ x.stage ∧ x.stage ≤ 6)
set_option maxRecDepth 100000 in
theorem wturned_any (w : World) (x : Sch) : Calls Tryz.prog 89 #[.agg (schA x)] w fun e w' => e = .returned (.bool (turnedB x)) ∧ Nw w w' := by
  obtain ⟨W0, hW0⟩ : ∃ W0, W0 = w.alloc (.cells (schA x) 122) := ⟨_, rfl⟩
  have q0 : Nw w W0 := by rw [hW0]; exact (Fr.refl (fun _ => False) w).alloc _
  have b0 : Blk W0 w.heap.size 122 (schA x) := by rw [hW0]; exact Blk.new w _ _
  have b1 := b0.fr ((Fr.refl (fun _ => False) W0).alloc (.cells #[.int .u8 4, .int .u8 5, .int .u8 6] 32)) (fun h => h)
  have c7 : (W0.alloc (.cells #[.int .u8 4, .int .u8 5, .int .u8 6] 32)).cell? ⟨w.heap.size, 7, none⟩ = some (U8V x.stage) := by simpa using b1.cell 7
  have hcon := containsStage_any (W0.alloc (.cells #[.int .u8 4, .int .u8 5, .int .u8 6] 32)) (· = W0.heap.size) (some ⟨W0.heap.size, 0, none⟩) 3 [4, 5, 6] x.stage (sl_new W0 32 [.int .u8 4, .int .u8 5, .int .u8 6] _ rfl) (by decide)
  have hb : decide (x.stage ∈ [(4 : Int), 5, 6]) = turnedB x := by
    unfold turnedB
    congr 1
    simp
    omega
  rw [hb] at hcon
  have HW0 := Lib.hid hW0
  clear hW0 b1 hb
  go_enter Tryz.func89, Tryz.ntmps89
  go_upto_region 1 with (fail)
  rw [← HW0.out]
  go_wp2_with fail
  refine hcon.mono ?_
  rintro e w1 ⟨rfl, q1⟩
  go_wp2_with fail
  go_ret
  exact ⟨rfl, (q0.alloc _).tr q1⟩
theorem stage_keys : U8MapKey Tryz.prog 32 := U8MapKey.of Tryz.underlying32
set_option maxRecDepth 100000 in
theorem ways_any (w : World) : Calls Tryz.prog 88 #[] w fun e w' => ∃ b f, e = .returned (.map (some b)) ∧ MapU Tryz.prog 32 w' b 9 f ∧ (∀ n, (f n).isSome = decide (1 ≤ n ∧ n ≤ 9)) ∧ Nw w w' := by
  have hmm := @run_makeMap Tryz.prog
  have M0 : MapU Tryz.prog 32 (w.alloc (.map #[] 0)) w.heap.size 0 (fun _ => none) := MapU.made w rfl
  have f0 : Fr (fun _ => False) w (w.alloc (.map #[] 0)) := (Fr.refl _ w).alloc _
  have m0 := M0.fr ((Fr.refl (fun _ => False) (w.alloc (.map #[] 0))).alloc (.cells #[.int .u8 2, .int .u8 7] 32)) (fun h => h)
  have g0 := f0.alloc (.cells #[.int .u8 2, .int .u8 7] 32)
  obtain ⟨W1, r1, M1, h1⟩ := m0.put stage_keys Tryz.underlying156 (by unfold maxLen; omega) 1 (u8Wf (by omega)) (by simp) (.slice (some ⟨(w.heap.size + 1), 0, none⟩) 2 2)
  have f1 := g0.trans h1 (fun q e => .inr (by omega))
  have m1 := M1.fr ((Fr.refl (fun _ => False) W1).alloc (.cells #[.int .u8 3, .int .u8 7] 32)) (fun h => h)
  have g1 := f1.alloc (.cells #[.int .u8 3, .int .u8 7] 32)
  obtain ⟨W2, r2, M2, h2⟩ := m1.put stage_keys Tryz.underlying156 (by unfold maxLen; omega) 2 (u8Wf (by omega)) (by simp) (.slice (some ⟨W1.heap.size, 0, none⟩) 2 2)
  have f2 := g1.trans h2 (fun q e => .inr (by omega))
  have m2 := M2.fr ((Fr.refl (fun _ => False) W2).alloc (.cells #[.int .u8 4, .int .u8 7] 32)) (fun h => h)
  have g2 := f2.alloc (.cells #[.int .u8 4, .int .u8 7] 32)
  obtain ⟨W3, r3, M3, h3⟩ := m2.put stage_keys Tryz.underlying156 (by unfold maxLen; omega) 3 (u8Wf (by omega)) (by simp) (.slice (some ⟨W2.heap.size, 0, none⟩) 2 2)
  have f3 := g2.trans h3 (fun q e => .inr (by omega))
  have m3 := M3.fr ((Fr.refl (fun _ => False) W3).alloc (.cells #[.int .u8 5] 32)) (fun h => h)
  have g3 := f3.alloc (.cells #[.int .u8 5] 32)
  obtain ⟨W4, r4, M4, h4⟩ := m3.put stage_keys Tryz.underlying156 (by unfold maxLen; omega) 4 (u8Wf (by omega)) (by simp) (.slice (some ⟨W3.heap.size, 0, none⟩) 1 1)
  have f4 := g3.trans h4 (fun q e => .inr (by omega))
  have m4 := M4.fr ((Fr.refl (fun _ => False) W4).alloc (.cells #[.int .u8 6] 32)) (fun h => h)
  have g4 := f4.alloc (.cells #[.int .u8 6] 32)
  obtain ⟨W5, r5, M5, h5⟩ := m4.put stage_keys Tryz.underlying156 (by unfold maxLen; omega) 5 (u8Wf (by omega)) (by simp) (.slice (some ⟨W4.heap.size, 0, none⟩) 1 1)
  have f5 := g4.trans h5 (fun q e => .inr (by omega))
  have m5 := M5.fr ((Fr.refl (fun _ => False) W5).alloc (.cells #[.int .u8 8] 32)) (fun h => h)
  have g5 := f5.alloc (.cells #[.int .u8 8] 32)
  obtain ⟨W6, r6, M6, h6⟩ := m5.put stage_keys Tryz.underlying156 (by unfold maxLen; omega) 7 (u8Wf (by omega)) (by simp) (.slice (some ⟨W5.heap.size, 0, none⟩) 1 1)
  have f6 := g5.trans h6 (fun q e => .inr (by omega))
  have m6 := M6.fr ((Fr.refl (fun _ => False) W6).alloc (.cells #[.int .u8 9] 32)) (fun h => h)
  have g6 := f6.alloc (.cells #[.int .u8 9] 32)
  obtain ⟨W7, r7, M7, h7⟩ := m6.put stage_keys Tryz.underlying156 (by unfold maxLen; omega) 8 (u8Wf (by omega)) (by simp) (.slice (some ⟨W6.heap.size, 0, none⟩) 1 1)
  have f7 := g6.trans h7 (fun q e => .inr (by omega))
  have m7 := M7
  have g7 := f7
  obtain ⟨W8, r8, M8, h8⟩ := m7.put stage_keys Tryz.underlying156 (by unfold maxLen; omega) 6 (u8Wf (by omega)) (by simp) (.slice none 0 0)
  have f8 := g7.trans h8 (fun q e => .inr (by omega))
  have m8 := M8
  have g8 := f8
  obtain ⟨W9, r9, M9, h9⟩ := m8.put stage_keys Tryz.underlying156 (by unfold maxLen; omega) 9 (u8Wf (by omega)) (by simp) (.slice none 0 0)
  have f9 := g8.trans h9 (fun q e => .inr (by omega))
  clear M0 m0 M1 m1 M2 m2 M3 m3 M4 m4 M5 m5 M6 m6 M7 m7 M8 m8 f0 f1 f2 f3 f4 f5 f6 f7 f8 g0 g1 g2 g3 g4 g5 g6 g7 g8 h1 h2 h3 h4 h5 h6 h7 h8 h9
  go_enter Tryz.func88, Tryz.ntmps88
  go_wp2_with fail
  go_ret
  refine ⟨_, _, rfl, M9, fun n => ?_, f9⟩
  show (Option.isSome (if n = 9 then _ else _)) = _
  by_cases e : 1 ≤ n ∧ n ≤ 9
  · rw [decide_eq_true e]
    have : n = 1 ∨ n = 2 ∨ n = 3 ∨ n = 4 ∨ n = 5 ∨ n = 6 ∨ n = 7 ∨ n = 8 ∨ n = 9 := by omega
    rcases this with rfl | rfl | rfl | rfl | rfl | rfl | rfl | rfl | rfl <;> rfl
  · rw [decide_eq_false e]
    rw [if_neg (by omega), if_neg (by omega), if_neg (by omega), if_neg (by omega), if_neg (by omega), if_neg (by omega), if_neg (by omega), if_neg (by omega), if_neg (by omega)]
    rfl
end Go.Proofs.YtfglibkffcogcaaGreat
