/- Orders: what each kind has, by the program. (Printed by genodr.py.) -/
import Derived.Test.YtkjnlhidnkbelaaGreatDoorOdP
namespace Go.Proofs.YtkjnlhidnkbelaaGreatDoor
open Go Go.RowKit

/-- A part's function. -/
def partV : Part → Value
  | .name => .func (.func 139) #[] #[]
  | .epoch => .func (.func 140) #[] #[]
  | .acts => .func (.func 141) #[] #[]
  | .commit => .func (.func 142) #[] #[]
  | .reads => .func (.func 146) #[] #[]
  | .scheme => .func (.func 143) #[] #[]
  | .stage => .func (.func 148) #[] #[]
  | .group => .func (.func 147) #[] #[]
  | .stretch => .func (.func 144) #[] #[]
  | .load => .func (.func 145) #[] #[]
theorem okind_keys : U8MapKey Tryz.prog 23 := U8MapKey.of Tryz.underlying23
theorem zparts_any (w : World) : (zeroValue 169).run Tryz.prog w = .ok (.slice none 0 0) w := by kernel_rfl
set_option maxRecDepth 100000 in
set_option maxHeartbeats 4000000 in
theorem parts_any (w : World) (k : Int) (hk : 0 ≤ k ∧ k ≤ 255) : Calls Tryz.prog 99 #[] w fun e w' => ∃ b A, e = .returned (.map (some b)) ∧
    (Instr.lookup 171 (.map (some b)) (.int .u8 k) true).run Tryz.prog w' = .ok (.tuple #[.slice A (partsOf k).length (partsOf k).length, .bool (kindOk k)]) w' ∧ Sl w' (fun j => w.heap.size ≤ j) A ((partsOf k).map partV) ∧ Nw w w' := by
  have hmm := @run_makeMap Tryz.prog
  have t3 : Tryz.prog.underlying 171 = some (.map 23 169) := Tryz.underlying171
  have M0 : MapU Tryz.prog 23 (w.alloc (.map #[] 0)) w.heap.size 0 (fun _ => none) := MapU.made w rfl
  have f0 : Fr (fun _ => False) w (w.alloc (.map #[] 0)) := (Fr.refl _ w).alloc _
  have m1 := M0.fr ((Fr.refl (fun _ => False) (w.alloc (.map #[] 0))).alloc (.cells #[.func (.func 139) #[] #[], .func (.func 140) #[] #[], .func (.func 141) #[] #[]] 174)) (fun h => h)
  have g1 := f0.alloc (.cells #[.func (.func 139) #[] #[], .func (.func 140) #[] #[], .func (.func 141) #[] #[]] 174)
  obtain ⟨W1, r1, M1, h1⟩ := m1.put okind_keys t3 (by unfold maxLen; omega) 1 (u8Wf (by omega)) (by simp) (.slice (some ⟨(w.heap.size + 1), 0, none⟩) 3 3)
  have f1 := g1.trans h1 (fun q e => .inr (by omega))
  have m2 := M1.fr ((Fr.refl (fun _ => False) W1).alloc (.cells #[.func (.func 139) #[] #[], .func (.func 142) #[] #[]] 174)) (fun h => h)
  have g2 := f1.alloc (.cells #[.func (.func 139) #[] #[], .func (.func 142) #[] #[]] 174)
  obtain ⟨W2, r2, M2, h2⟩ := m2.put okind_keys t3 (by unfold maxLen; omega) 2 (u8Wf (by omega)) (by simp) (.slice (some ⟨W1.heap.size, 0, none⟩) 2 2)
  have f2 := g2.trans h2 (fun q e => .inr (by omega))
  have m3 := M2.fr ((Fr.refl (fun _ => False) W2).alloc (.cells #[.func (.func 143) #[] #[], .func (.func 144) #[] #[], .func (.func 140) #[] #[]] 174)) (fun h => h)
  have g3 := f2.alloc (.cells #[.func (.func 143) #[] #[], .func (.func 144) #[] #[], .func (.func 140) #[] #[]] 174)
  obtain ⟨W3, r3, M3, h3⟩ := m3.put okind_keys t3 (by unfold maxLen; omega) 3 (u8Wf (by omega)) (by simp) (.slice (some ⟨W2.heap.size, 0, none⟩) 3 3)
  have f3 := g3.trans h3 (fun q e => .inr (by omega))
  have m4 := M3.fr ((Fr.refl (fun _ => False) W3).alloc (.cells #[.func (.func 143) #[] #[]] 174)) (fun h => h)
  have g4 := f3.alloc (.cells #[.func (.func 143) #[] #[]] 174)
  obtain ⟨W4, r4, M4, h4⟩ := m4.put okind_keys t3 (by unfold maxLen; omega) 4 (u8Wf (by omega)) (by simp) (.slice (some ⟨W3.heap.size, 0, none⟩) 1 1)
  have f4 := g4.trans h4 (fun q e => .inr (by omega))
  have m5 := M4.fr ((Fr.refl (fun _ => False) W4).alloc (.cells #[.func (.func 143) #[] #[], .func (.func 144) #[] #[], .func (.func 145) #[] #[]] 174)) (fun h => h)
  have g5 := f4.alloc (.cells #[.func (.func 143) #[] #[], .func (.func 144) #[] #[], .func (.func 145) #[] #[]] 174)
  obtain ⟨W5, r5, M5, h5⟩ := m5.put okind_keys t3 (by unfold maxLen; omega) 5 (u8Wf (by omega)) (by simp) (.slice (some ⟨W4.heap.size, 0, none⟩) 3 3)
  have f5 := g5.trans h5 (fun q e => .inr (by omega))
  have m6 := M5.fr ((Fr.refl (fun _ => False) W5).alloc (.cells #[.func (.func 143) #[] #[], .func (.func 140) #[] #[]] 174)) (fun h => h)
  have g6 := f5.alloc (.cells #[.func (.func 143) #[] #[], .func (.func 140) #[] #[]] 174)
  obtain ⟨W6, r6, M6, h6⟩ := m6.put okind_keys t3 (by unfold maxLen; omega) 6 (u8Wf (by omega)) (by simp) (.slice (some ⟨W5.heap.size, 0, none⟩) 2 2)
  have f6 := g6.trans h6 (fun q e => .inr (by omega))
  have m7 := M6.fr ((Fr.refl (fun _ => False) W6).alloc (.cells #[.func (.func 143) #[] #[]] 174)) (fun h => h)
  have g7 := f6.alloc (.cells #[.func (.func 143) #[] #[]] 174)
  obtain ⟨W7, r7, M7, h7⟩ := m7.put okind_keys t3 (by unfold maxLen; omega) 7 (u8Wf (by omega)) (by simp) (.slice (some ⟨W6.heap.size, 0, none⟩) 1 1)
  have f7 := g7.trans h7 (fun q e => .inr (by omega))
  have m8 := M7.fr ((Fr.refl (fun _ => False) W7).alloc (.cells #[.func (.func 143) #[] #[]] 174)) (fun h => h)
  have g8 := f7.alloc (.cells #[.func (.func 143) #[] #[]] 174)
  obtain ⟨W8, r8, M8, h8⟩ := m8.put okind_keys t3 (by unfold maxLen; omega) 8 (u8Wf (by omega)) (by simp) (.slice (some ⟨W7.heap.size, 0, none⟩) 1 1)
  have f8 := g8.trans h8 (fun q e => .inr (by omega))
  have m9 := M8.fr ((Fr.refl (fun _ => False) W8).alloc (.cells #[.func (.func 139) #[] #[], .func (.func 142) #[] #[], .func (.func 146) #[] #[]] 174)) (fun h => h)
  have g9 := f8.alloc (.cells #[.func (.func 139) #[] #[], .func (.func 142) #[] #[], .func (.func 146) #[] #[]] 174)
  obtain ⟨W9, r9, M9, h9⟩ := m9.put okind_keys t3 (by unfold maxLen; omega) 9 (u8Wf (by omega)) (by simp) (.slice (some ⟨W8.heap.size, 0, none⟩) 3 3)
  have f9 := g9.trans h9 (fun q e => .inr (by omega))
  have m10 := M9.fr ((Fr.refl (fun _ => False) W9).alloc (.cells #[.func (.func 139) #[] #[]] 174)) (fun h => h)
  have g10 := f9.alloc (.cells #[.func (.func 139) #[] #[]] 174)
  obtain ⟨W10, r10, M10, h10⟩ := m10.put okind_keys t3 (by unfold maxLen; omega) 10 (u8Wf (by omega)) (by simp) (.slice (some ⟨W9.heap.size, 0, none⟩) 1 1)
  have f10 := g10.trans h10 (fun q e => .inr (by omega))
  have m11 := M10.fr ((Fr.refl (fun _ => False) W10).alloc (.cells #[.func (.func 144) #[] #[], .func (.func 147) #[] #[]] 174)) (fun h => h)
  have g11 := f10.alloc (.cells #[.func (.func 144) #[] #[], .func (.func 147) #[] #[]] 174)
  obtain ⟨W11, r11, M11, h11⟩ := m11.put okind_keys t3 (by unfold maxLen; omega) 11 (u8Wf (by omega)) (by simp) (.slice (some ⟨W10.heap.size, 0, none⟩) 2 2)
  have f11 := g11.trans h11 (fun q e => .inr (by omega))
  have m12 := M11.fr ((Fr.refl (fun _ => False) W11).alloc (.cells #[.func (.func 143) #[] #[], .func (.func 148) #[] #[]] 174)) (fun h => h)
  have g12 := f11.alloc (.cells #[.func (.func 143) #[] #[], .func (.func 148) #[] #[]] 174)
  obtain ⟨W12, r12, M12, h12⟩ := m12.put okind_keys t3 (by unfold maxLen; omega) 12 (u8Wf (by omega)) (by simp) (.slice (some ⟨W11.heap.size, 0, none⟩) 2 2)
  have f12 := g12.trans h12 (fun q e => .inr (by omega))
  have m13 := M12.fr ((Fr.refl (fun _ => False) W12).alloc (.cells #[] 174)) (fun h => h)
  have g13 := f12.alloc (.cells #[] 174)
  obtain ⟨W13, r13, M13, h13⟩ := m13.put okind_keys t3 (by unfold maxLen; omega) 13 (u8Wf (by omega)) (by simp) (.slice (some ⟨W12.heap.size, 0, none⟩) 0 0)
  have f13 := g13.trans h13 (fun q e => .inr (by omega))
  have E13 : Fr (· = w.heap.size) (W12.alloc _) W13 := h13
  have E12 : Fr (· = w.heap.size) (W11.alloc _) W13 := h12.tr (((Fr.refl (· = w.heap.size) W12).alloc _).tr E13)
  have E11 : Fr (· = w.heap.size) (W10.alloc _) W13 := h11.tr (((Fr.refl (· = w.heap.size) W11).alloc _).tr E12)
  have E10 : Fr (· = w.heap.size) (W9.alloc _) W13 := h10.tr (((Fr.refl (· = w.heap.size) W10).alloc _).tr E11)
  have E9 : Fr (· = w.heap.size) (W8.alloc _) W13 := h9.tr (((Fr.refl (· = w.heap.size) W9).alloc _).tr E10)
  have E8 : Fr (· = w.heap.size) (W7.alloc _) W13 := h8.tr (((Fr.refl (· = w.heap.size) W8).alloc _).tr E9)
  have E7 : Fr (· = w.heap.size) (W6.alloc _) W13 := h7.tr (((Fr.refl (· = w.heap.size) W7).alloc _).tr E8)
  have E6 : Fr (· = w.heap.size) (W5.alloc _) W13 := h6.tr (((Fr.refl (· = w.heap.size) W6).alloc _).tr E7)
  have E5 : Fr (· = w.heap.size) (W4.alloc _) W13 := h5.tr (((Fr.refl (· = w.heap.size) W5).alloc _).tr E6)
  have E4 : Fr (· = w.heap.size) (W3.alloc _) W13 := h4.tr (((Fr.refl (· = w.heap.size) W4).alloc _).tr E5)
  have E3 : Fr (· = w.heap.size) (W2.alloc _) W13 := h3.tr (((Fr.refl (· = w.heap.size) W3).alloc _).tr E4)
  have E2 : Fr (· = w.heap.size) (W1.alloc _) W13 := h2.tr (((Fr.refl (· = w.heap.size) W2).alloc _).tr E3)
  have E1 : Fr (· = w.heap.size) ((w.alloc (.map #[] 0)).alloc _) W13 := h1.tr (((Fr.refl (· = w.heap.size) W1).alloc _).tr E2)
  have z0 : (w.alloc (.map #[] 0)).heap.size = w.heap.size + 1 := by simp
  have y1 : w.heap.size < (w.alloc (.map #[] 0)).heap.size := by omega
  have s1 : Sl W13 (fun j => w.heap.size ≤ j) (some ⟨(w.heap.size + 1), 0, none⟩) [.func (.func 139) #[] #[], .func (.func 140) #[] #[], .func (.func 141) #[] #[]] := ((sl_new (w.alloc (.map #[] 0)) 174 [.func (.func 139) #[] #[], .func (.func 140) #[] #[], .func (.func 141) #[] #[]] (w.heap.size + 1) (by simp)).fr E1 (fun q hq e => by omega)).mono (fun q hq _ => by omega)
  have y2 : w.heap.size < W1.heap.size := by have := f1.size; have := (f1.cell (p := ⟨w.heap.size, 0, none⟩)); have := M1.lt; omega
  have s2 : Sl W13 (fun j => w.heap.size ≤ j) (some ⟨W1.heap.size, 0, none⟩) [.func (.func 139) #[] #[], .func (.func 142) #[] #[]] := ((sl_new W1 174 [.func (.func 139) #[] #[], .func (.func 142) #[] #[]] W1.heap.size (by simp)).fr E2 (fun q hq e => by omega)).mono (fun q hq _ => by omega)
  have y3 : w.heap.size < W2.heap.size := by have := f2.size; have := (f2.cell (p := ⟨w.heap.size, 0, none⟩)); have := M2.lt; omega
  have s3 : Sl W13 (fun j => w.heap.size ≤ j) (some ⟨W2.heap.size, 0, none⟩) [.func (.func 143) #[] #[], .func (.func 144) #[] #[], .func (.func 140) #[] #[]] := ((sl_new W2 174 [.func (.func 143) #[] #[], .func (.func 144) #[] #[], .func (.func 140) #[] #[]] W2.heap.size (by simp)).fr E3 (fun q hq e => by omega)).mono (fun q hq _ => by omega)
  have y4 : w.heap.size < W3.heap.size := by have := f3.size; have := (f3.cell (p := ⟨w.heap.size, 0, none⟩)); have := M3.lt; omega
  have s4 : Sl W13 (fun j => w.heap.size ≤ j) (some ⟨W3.heap.size, 0, none⟩) [.func (.func 143) #[] #[]] := ((sl_new W3 174 [.func (.func 143) #[] #[]] W3.heap.size (by simp)).fr E4 (fun q hq e => by omega)).mono (fun q hq _ => by omega)
  have y5 : w.heap.size < W4.heap.size := by have := f4.size; have := (f4.cell (p := ⟨w.heap.size, 0, none⟩)); have := M4.lt; omega
  have s5 : Sl W13 (fun j => w.heap.size ≤ j) (some ⟨W4.heap.size, 0, none⟩) [.func (.func 143) #[] #[], .func (.func 144) #[] #[], .func (.func 145) #[] #[]] := ((sl_new W4 174 [.func (.func 143) #[] #[], .func (.func 144) #[] #[], .func (.func 145) #[] #[]] W4.heap.size (by simp)).fr E5 (fun q hq e => by omega)).mono (fun q hq _ => by omega)
  have y6 : w.heap.size < W5.heap.size := by have := f5.size; have := (f5.cell (p := ⟨w.heap.size, 0, none⟩)); have := M5.lt; omega
  have s6 : Sl W13 (fun j => w.heap.size ≤ j) (some ⟨W5.heap.size, 0, none⟩) [.func (.func 143) #[] #[], .func (.func 140) #[] #[]] := ((sl_new W5 174 [.func (.func 143) #[] #[], .func (.func 140) #[] #[]] W5.heap.size (by simp)).fr E6 (fun q hq e => by omega)).mono (fun q hq _ => by omega)
  have y7 : w.heap.size < W6.heap.size := by have := f6.size; have := (f6.cell (p := ⟨w.heap.size, 0, none⟩)); have := M6.lt; omega
  have s7 : Sl W13 (fun j => w.heap.size ≤ j) (some ⟨W6.heap.size, 0, none⟩) [.func (.func 143) #[] #[]] := ((sl_new W6 174 [.func (.func 143) #[] #[]] W6.heap.size (by simp)).fr E7 (fun q hq e => by omega)).mono (fun q hq _ => by omega)
  have y8 : w.heap.size < W7.heap.size := by have := f7.size; have := (f7.cell (p := ⟨w.heap.size, 0, none⟩)); have := M7.lt; omega
  have s8 : Sl W13 (fun j => w.heap.size ≤ j) (some ⟨W7.heap.size, 0, none⟩) [.func (.func 143) #[] #[]] := ((sl_new W7 174 [.func (.func 143) #[] #[]] W7.heap.size (by simp)).fr E8 (fun q hq e => by omega)).mono (fun q hq _ => by omega)
  have y9 : w.heap.size < W8.heap.size := by have := f8.size; have := (f8.cell (p := ⟨w.heap.size, 0, none⟩)); have := M8.lt; omega
  have s9 : Sl W13 (fun j => w.heap.size ≤ j) (some ⟨W8.heap.size, 0, none⟩) [.func (.func 139) #[] #[], .func (.func 142) #[] #[], .func (.func 146) #[] #[]] := ((sl_new W8 174 [.func (.func 139) #[] #[], .func (.func 142) #[] #[], .func (.func 146) #[] #[]] W8.heap.size (by simp)).fr E9 (fun q hq e => by omega)).mono (fun q hq _ => by omega)
  have y10 : w.heap.size < W9.heap.size := by have := f9.size; have := (f9.cell (p := ⟨w.heap.size, 0, none⟩)); have := M9.lt; omega
  have s10 : Sl W13 (fun j => w.heap.size ≤ j) (some ⟨W9.heap.size, 0, none⟩) [.func (.func 139) #[] #[]] := ((sl_new W9 174 [.func (.func 139) #[] #[]] W9.heap.size (by simp)).fr E10 (fun q hq e => by omega)).mono (fun q hq _ => by omega)
  have y11 : w.heap.size < W10.heap.size := by have := f10.size; have := (f10.cell (p := ⟨w.heap.size, 0, none⟩)); have := M10.lt; omega
  have s11 : Sl W13 (fun j => w.heap.size ≤ j) (some ⟨W10.heap.size, 0, none⟩) [.func (.func 144) #[] #[], .func (.func 147) #[] #[]] := ((sl_new W10 174 [.func (.func 144) #[] #[], .func (.func 147) #[] #[]] W10.heap.size (by simp)).fr E11 (fun q hq e => by omega)).mono (fun q hq _ => by omega)
  have y12 : w.heap.size < W11.heap.size := by have := f11.size; have := (f11.cell (p := ⟨w.heap.size, 0, none⟩)); have := M11.lt; omega
  have s12 : Sl W13 (fun j => w.heap.size ≤ j) (some ⟨W11.heap.size, 0, none⟩) [.func (.func 143) #[] #[], .func (.func 148) #[] #[]] := ((sl_new W11 174 [.func (.func 143) #[] #[], .func (.func 148) #[] #[]] W11.heap.size (by simp)).fr E12 (fun q hq e => by omega)).mono (fun q hq _ => by omega)
  have hlk := M13.look okind_keys t3 (zparts_any W13) k (u8Wf hk)
  clear hk
  have hfin : ∃ A, (Instr.lookup 171 (.map (some w.heap.size)) (.int .u8 k) true).run Tryz.prog W13 = .ok (.tuple #[.slice A (partsOf k).length (partsOf k).length, .bool (kindOk k)]) W13 ∧ Sl W13 (fun j => w.heap.size ≤ j) A ((partsOf k).map partV) := by
    by_cases e : 1 ≤ k ∧ k ≤ 13
    · have : k = 1 ∨ k = 2 ∨ k = 3 ∨ k = 4 ∨ k = 5 ∨ k = 6 ∨ k = 7 ∨ k = 8 ∨ k = 9 ∨ k = 10 ∨ k = 11 ∨ k = 12 ∨ k = 13 := by omega
      rcases this with rfl | rfl | rfl | rfl | rfl | rfl | rfl | rfl | rfl | rfl | rfl | rfl | rfl
      · exact ⟨_, hlk, s1⟩
      · exact ⟨_, hlk, s2⟩
      · exact ⟨_, hlk, s3⟩
      · exact ⟨_, hlk, s4⟩
      · exact ⟨_, hlk, s5⟩
      · exact ⟨_, hlk, s6⟩
      · exact ⟨_, hlk, s7⟩
      · exact ⟨_, hlk, s8⟩
      · exact ⟨_, hlk, s9⟩
      · exact ⟨_, hlk, s10⟩
      · exact ⟨_, hlk, s11⟩
      · exact ⟨_, hlk, s12⟩
      · exact ⟨_, hlk, .inl rfl⟩
    · have hp : partsOf k = [] := by
        unfold partsOf
        rw [if_neg (by omega), if_neg (by omega), if_neg (by omega), if_neg (by omega), if_neg (by omega), if_neg (by omega), if_neg (by omega), if_neg (by omega), if_neg (by omega), if_neg (by omega), if_neg (by omega), if_neg (by omega)]
      have hkk : kindOk k = false := decide_eq_false e
      rw [hp, hkk]
      simp only [show ¬ k = 1 from by omega, show ¬ k = 2 from by omega, show ¬ k = 3 from by omega, show ¬ k = 4 from by omega, show ¬ k = 5 from by omega, show ¬ k = 6 from by omega, show ¬ k = 7 from by omega, show ¬ k = 8 from by omega, show ¬ k = 9 from by omega, show ¬ k = 10 from by omega, show ¬ k = 11 from by omega, show ¬ k = 12 from by omega, show ¬ k = 13 from by omega, if_false, Option.getD_none, Option.isSome_none] at hlk
      exact ⟨none, hlk, .inl rfl⟩
  have HF := Lib.hid hfin
  clear hfin hlk M0 m1 f0 g1 h1 E1 M1 m2 f1 g2 h2 E2 M2 m3 f2 g3 h3 E3 M3 m4 f3 g4 h4 E4 M4 m5 f4 g5 h5 E5 M5 m6 f5 g6 h6 E6 M6 m7 f6 g7 h7 E7 M7 m8 f7 g8 h8 E8 M8 m9 f8 g9 h9 E9 M9 m10 f9 g10 h10 E10 M10 m11 f10 g11 h11 E11 M11 m12 f11 g12 h12 E12 M12 m13 f12 g13 h13 E13 M13 z0 y1 s1 y2 s2 y3 s3 y4 s4 y5 s5 y6 s6 y7 s7 y8 s8 y9 s9 y10 s10 y11 s11 y12 s12 t3
  go_enter Tryz.func99, Tryz.ntmps99
  go_wp2_with fail
  go_ret
  obtain ⟨A, hlk, hs⟩ := HF.out
  exact ⟨_, A, rfl, hlk, hs, f13⟩
end Go.Proofs.YtkjnlhidnkbelaaGreatDoor
