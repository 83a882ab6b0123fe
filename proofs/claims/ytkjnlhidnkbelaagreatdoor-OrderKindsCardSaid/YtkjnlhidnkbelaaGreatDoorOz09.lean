/- Lemmas of the walks: OdR, Gr6, OdSS, OdV. (Laid together by shake.py.) -/
import Derived.Test.YtkjnlhidnkbelaaGreatDoorOz04
import Derived.Test.YtkjnlhidnkbelaaGreatDoorOz08
set_option linter.unusedVariables false
set_option linter.unusedSimpArgs false
namespace Go.Proofs.YtkjnlhidnkbelaaGreatDoor
open Go Go.RowKit

/-- A part's function. -/
def partV : Part → Value
  | .name => .func (.func 139) #[] #[]
  | .epoch => .func (.func 140) #[] #[]
  | .acts => .func (.func 141) #[] #[]
  | .commit => .func (.func 142) #[] #[]
  | .reads => .func (.func 146) #[] #[]
  | .scheme => .func (.func 143) #[] #[]
  | .stage => .func (.func 148) #[] #[]
  | .group => .func (.func 147) #[] #[]
  | .stretch => .func (.func 144) #[] #[]
  | .load => .func (.func 145) #[] #[]
theorem okind_keys : U8MapKey Tryz.prog 23 := U8MapKey.of Tryz.underlying23
theorem zparts_any (w : World) : (zeroValue 169).run Tryz.prog w = .ok (.slice none 0 0) w := by kernel_rfl
set_option maxRecDepth 100000 in
set_option maxHeartbeats 4000000 in
theorem parts_any (w : World) (k : Int) (hk : 0 ≤ k ∧ k ≤ 255) : Calls Tryz.prog 99 #[] w fun e w' => ∃ b A, e = .returned (.map (some b)) ∧
    (Instr.lookup 171 (.map (some b)) (.int .u8 k) true).run Tryz.prog w' = .ok (.tuple #[.slice A (partsOf k).length (partsOf k).length, .bool (kindOk k)]) w' ∧ Sl w' (fun j => w.heap.size ≤ j) A ((partsOf k).map partV) ∧ Nw w w' := by
  have hmm := @run_makeMap Tryz.prog
  have t3 : Tryz.prog.underlying 171 = some (.map 23 169) := Tryz.underlying171
  have M0 : MapU Tryz.prog 23 (w.alloc (.map #[] 0)) w.heap.size 0 (fun _ => none) := MapU.made w rfl
  have f0 : Fr (fun _ => False) w (w.alloc (.map #[] 0)) := (Fr.refl _ w).alloc _
  have m1 := M0.fr ((Fr.refl (fun _ => False) (w.alloc (.map #[] 0))).alloc (.cells #[.func (.func 139) #[] #[], .func (.func 140) #[] #[], .func (.func 141) #[] #[]] 174)) (fun h => h)
  have g1 := f0.alloc (.cells #[.func (.func 139) #[] #[], .func (.func 140) #[] #[], .func (.func 141) #[] #[]] 174)
  obtain ⟨W1, r1, M1, h1⟩ := m1.put okind_keys t3 (by unfold maxLen; omega) 1 (u8Wf (by omega)) (by simp) (.slice (some ⟨(w.heap.size + 1), 0, none⟩) 3 3)
  have f1 := g1.trans h1 (fun q e => .inr (by omega))
  have m2 := M1.fr ((Fr.refl (fun _ => False) W1).alloc (.cells #[.func (.func 139) #[] #[], .func (.func 142) #[] #[]] 174)) (fun h => h)
  have g2 := f1.alloc (.cells #[.func (.func 139) #[] #[], .func (.func 142) #[] #[]] 174)
  obtain ⟨W2, r2, M2, h2⟩ := m2.put okind_keys t3 (by unfold maxLen; omega) 2 (u8Wf (by omega)) (by simp) (.slice (some ⟨W1.heap.size, 0, none⟩) 2 2)
  have f2 := g2.trans h2 (fun q e => .inr (by omega))
  have m3 := M2.fr ((Fr.refl (fun _ => False) W2).alloc (.cells #[.func (.func 143) #[] #[], .func (.func 144) #[] #[], .func (.func 140) #[] #[]] 174)) (fun h => h)
  have g3 := f2.alloc (.cells #[.func (.func 143) #[] #[], .func (.func 144) #[] #[], .func (.func 140) #[] #[]] 174)
  obtain ⟨W3, r3, M3, h3⟩ := m3.put okind_keys t3 (by unfold maxLen; omega) 3 (u8Wf (by omega)) (by simp) (.slice (some ⟨W2.heap.size, 0, none⟩) 3 3)
  have f3 := g3.trans h3 (fun q e => .inr (by omega))
  have m4 := M3.fr ((Fr.refl (fun _ => False) W3).alloc (.cells #[.func (.func 143) #[] #[]] 174)) (fun h => h)
  have g4 := f3.alloc (.cells #[.func (.func 143) #[] #[]] 174)
  obtain ⟨W4, r4, M4, h4⟩ := m4.put okind_keys t3 (by unfold maxLen; omega) 4 (u8Wf (by omega)) (by simp) (.slice (some ⟨W3.heap.size, 0, none⟩) 1 1)
  have f4 := g4.trans h4 (fun q e => .inr (by omega))
  have m5 := M4.fr ((Fr.refl (fun _ => False) W4).alloc (.cells #[.func (.func 143) #[] #[], .func (.func 144) #[] #[], .func (.func 145) #[] #[]] 174)) (fun h => h)
  have g5 := f4.alloc (.cells #[.func (.func 143) #[] #[], .func (.func 144) #[] #[], .func (.func 145) #[] #[]] 174)
  obtain ⟨W5, r5, M5, h5⟩ := m5.put okind_keys t3 (by unfold maxLen; omega) 5 (u8Wf (by omega)) (by simp) (.slice (some ⟨W4.heap.size, 0, none⟩) 3 3)
  have f5 := g5.trans h5 (fun q e => .inr (by omega))
  have m6 := M5.fr ((Fr.refl (fun _ => False) W5).alloc (.cells #[.func (.func 143) #[] #[], .func (.func 140) #[] #[]] 174)) (fun h => h)
  have g6 := f5.alloc (.cells #[.func (.func 143) #[] #[], .func (.func 140) #[] #[]] 174)
  obtain ⟨W6, r6, M6, h6⟩ := m6.put okind_keys t3 (by unfold maxLen; omega) 6 (u8Wf (by omega)) (by simp) (.slice (some ⟨W5.heap.size, 0, none⟩) 2 2)
  have f6 := g6.trans h6 (fun q e => .inr (by omega))
  have m7 := M6.fr ((Fr.refl (fun _ => False) W6).alloc (.cells #[.func (.func 143) #[] #[]] 174)) (fun h => h)
  have g7 := f6.alloc (.cells #[.func (.func 143) #[] #[]] 174)
  obtain ⟨W7, r7, M7, h7⟩ := m7.put okind_keys t3 (by unfold maxLen; omega) 7 (u8Wf (by omega)) (by simp) (.slice (some ⟨W6.heap.size, 0, none⟩) 1 1)
  have f7 := g7.trans h7 (fun q e => .inr (by omega))
  have m8 := M7.fr ((Fr.refl (fun _ => False) W7).alloc (.cells #[.func (.func 143) #[] #[]] 174)) (fun h => h)
  have g8 := f7.alloc (.cells #[.func (.func 143) #[] #[]] 174)
  obtain ⟨W8, r8, M8, h8⟩ := m8.put okind_keys t3 (by unfold maxLen; omega) 8 (u8Wf (by omega)) (by simp) (.slice (some ⟨W7.heap.size, 0, none⟩) 1 1)
  have f8 := g8.trans h8 (fun q e => .inr (by omega))
  have m9 := M8.fr ((Fr.refl (fun _ => False) W8).alloc (.cells #[.func (.func 139) #[] #[], .func (.func 142) #[] #[], .func (.func 146) #[] #[]] 174)) (fun h => h)
  have g9 := f8.alloc (.cells #[.func (.func 139) #[] #[], .func (.func 142) #[] #[], .func (.func 146) #[] #[]] 174)
  obtain ⟨W9, r9, M9, h9⟩ := m9.put okind_keys t3 (by unfold maxLen; omega) 9 (u8Wf (by omega)) (by simp) (.slice (some ⟨W8.heap.size, 0, none⟩) 3 3)
  have f9 := g9.trans h9 (fun q e => .inr (by omega))
  have m10 := M9.fr ((Fr.refl (fun _ => False) W9).alloc (.cells #[.func (.func 139) #[] #[]] 174)) (fun h => h)
  have g10 := f9.alloc (.cells #[.func (.func 139) #[] #[]] 174)
  obtain ⟨W10, r10, M10, h10⟩ := m10.put okind_keys t3 (by unfold maxLen; omega) 10 (u8Wf (by omega)) (by simp) (.slice (some ⟨W9.heap.size, 0, none⟩) 1 1)
  have f10 := g10.trans h10 (fun q e => .inr (by omega))
  have m11 := M10.fr ((Fr.refl (fun _ => False) W10).alloc (.cells #[.func (.func 144) #[] #[], .func (.func 147) #[] #[]] 174)) (fun h => h)
  have g11 := f10.alloc (.cells #[.func (.func 144) #[] #[], .func (.func 147) #[] #[]] 174)
  obtain ⟨W11, r11, M11, h11⟩ := m11.put okind_keys t3 (by unfold maxLen; omega) 11 (u8Wf (by omega)) (by simp) (.slice (some ⟨W10.heap.size, 0, none⟩) 2 2)
  have f11 := g11.trans h11 (fun q e => .inr (by omega))
  have m12 := M11.fr ((Fr.refl (fun _ => False) W11).alloc (.cells #[.func (.func 143) #[] #[], .func (.func 148) #[] #[]] 174)) (fun h => h)
  have g12 := f11.alloc (.cells #[.func (.func 143) #[] #[], .func (.func 148) #[] #[]] 174)
  obtain ⟨W12, r12, M12, h12⟩ := m12.put okind_keys t3 (by unfold maxLen; omega) 12 (u8Wf (by omega)) (by simp) (.slice (some ⟨W11.heap.size, 0, none⟩) 2 2)
  have f12 := g12.trans h12 (fun q e => .inr (by omega))
  have m13 := M12.fr ((Fr.refl (fun _ => False) W12).alloc (.cells #[] 174)) (fun h => h)
  have g13 := f12.alloc (.cells #[] 174)
  obtain ⟨W13, r13, M13, h13⟩ := m13.put okind_keys t3 (by unfold maxLen; omega) 13 (u8Wf (by omega)) (by simp) (.slice (some ⟨W12.heap.size, 0, none⟩) 0 0)
  have f13 := g13.trans h13 (fun q e => .inr (by omega))
  have E13 : Fr (· = w.heap.size) (W12.alloc _) W13 := h13
  have E12 : Fr (· = w.heap.size) (W11.alloc _) W13 := h12.tr (((Fr.refl (· = w.heap.size) W12).alloc _).tr E13)
  have E11 : Fr (· = w.heap.size) (W10.alloc _) W13 := h11.tr (((Fr.refl (· = w.heap.size) W11).alloc _).tr E12)
  have E10 : Fr (· = w.heap.size) (W9.alloc _) W13 := h10.tr (((Fr.refl (· = w.heap.size) W10).alloc _).tr E11)
  have E9 : Fr (· = w.heap.size) (W8.alloc _) W13 := h9.tr (((Fr.refl (· = w.heap.size) W9).alloc _).tr E10)
  have E8 : Fr (· = w.heap.size) (W7.alloc _) W13 := h8.tr (((Fr.refl (· = w.heap.size) W8).alloc _).tr E9)
  have E7 : Fr (· = w.heap.size) (W6.alloc _) W13 := h7.tr (((Fr.refl (· = w.heap.size) W7).alloc _).tr E8)
  have E6 : Fr (· = w.heap.size) (W5.alloc _) W13 := h6.tr (((Fr.refl (· = w.heap.size) W6).alloc _).tr E7)
  have E5 : Fr (· = w.heap.size) (W4.alloc _) W13 := h5.tr (((Fr.refl (· = w.heap.size) W5).alloc _).tr E6)
  have E4 : Fr (· = w.heap.size) (W3.alloc _) W13 := h4.tr (((Fr.refl (· = w.heap.size) W4).alloc _).tr E5)
  have E3 : Fr (· = w.heap.size) (W2.alloc _) W13 := h3.tr (((Fr.refl (· = w.heap.size) W3).alloc _).tr E4)
  have E2 : Fr (· = w.heap.size) (W1.alloc _) W13 := h2.tr (((Fr.refl (· = w.heap.size) W2).alloc _).tr E3)
  have E1 : Fr (· = w.heap.size) ((w.alloc (.map #[] 0)).alloc _) W13 := h1.tr (((Fr.refl (· = w.heap.size) W1).alloc _).tr E2)
  have z0 : (w.alloc (.map #[] 0)).heap.size = w.heap.size + 1 := by simp
  have y1 : w.heap.size < (w.alloc (.map #[] 0)).heap.size := by omega
  have s1 : Sl W13 (fun j => w.heap.size ≤ j) (some ⟨(w.heap.size + 1), 0, none⟩) [.func (.func 139) #[] #[], .func (.func 140) #[] #[], .func (.func 141) #[] #[]] := ((sl_new (w.alloc (.map #[] 0)) 174 [.func (.func 139) #[] #[], .func (.func 140) #[] #[], .func (.func 141) #[] #[]] (w.heap.size + 1) (by simp)).fr E1 (fun q hq e => by omega)).mono (fun q hq _ => by omega)
  have y2 : w.heap.size < W1.heap.size := by have := f1.size; have := (f1.cell (p := ⟨w.heap.size, 0, none⟩)); have := M1.lt; omega
  have s2 : Sl W13 (fun j => w.heap.size ≤ j) (some ⟨W1.heap.size, 0, none⟩) [.func (.func 139) #[] #[], .func (.func 142) #[] #[]] := ((sl_new W1 174 [.func (.func 139) #[] #[], .func (.func 142) #[] #[]] W1.heap.size (by simp)).fr E2 (fun q hq e => by omega)).mono (fun q hq _ => by omega)
  have y3 : w.heap.size < W2.heap.size := by have := f2.size; have := (f2.cell (p := ⟨w.heap.size, 0, none⟩)); have := M2.lt; omega
  have s3 : Sl W13 (fun j => w.heap.size ≤ j) (some ⟨W2.heap.size, 0, none⟩) [.func (.func 143) #[] #[], .func (.func 144) #[] #[], .func (.func 140) #[] #[]] := ((sl_new W2 174 [.func (.func 143) #[] #[], .func (.func 144) #[] #[], .func (.func 140) #[] #[]] W2.heap.size (by simp)).fr E3 (fun q hq e => by omega)).mono (fun q hq _ => by omega)
  have y4 : w.heap.size < W3.heap.size := by have := f3.size; have := (f3.cell (p := ⟨w.heap.size, 0, none⟩)); have := M3.lt; omega
  have s4 : Sl W13 (fun j => w.heap.size ≤ j) (some ⟨W3.heap.size, 0, none⟩) [.func (.func 143) #[] #[]] := ((sl_new W3 174 [.func (.func 143) #[] #[]] W3.heap.size (by simp)).fr E4 (fun q hq e => by omega)).mono (fun q hq _ => by omega)
  have y5 : w.heap.size < W4.heap.size := by have := f4.size; have := (f4.cell (p := ⟨w.heap.size, 0, none⟩)); have := M4.lt; omega
  have s5 : Sl W13 (fun j => w.heap.size ≤ j) (some ⟨W4.heap.size, 0, none⟩) [.func (.func 143) #[] #[], .func (.func 144) #[] #[], .func (.func 145) #[] #[]] := ((sl_new W4 174 [.func (.func 143) #[] #[], .func (.func 144) #[] #[], .func (.func 145) #[] #[]] W4.heap.size (by simp)).fr E5 (fun q hq e => by omega)).mono (fun q hq _ => by omega)
  have y6 : w.heap.size < W5.heap.size := by have := f5.size; have := (f5.cell (p := ⟨w.heap.size, 0, none⟩)); have := M5.lt; omega
  have s6 : Sl W13 (fun j => w.heap.size ≤ j) (some ⟨W5.heap.size, 0, none⟩) [.func (.func 143) #[] #[], .func (.func 140) #[] #[]] := ((sl_new W5 174 [.func (.func 143) #[] #[], .func (.func 140) #[] #[]] W5.heap.size (by simp)).fr E6 (fun q hq e => by omega)).mono (fun q hq _ => by omega)
  have y7 : w.heap.size < W6.heap.size := by have := f6.size; have := (f6.cell (p := ⟨w.heap.size, 0, none⟩)); have := M6.lt; omega
  have s7 : Sl W13 (fun j => w.heap.size ≤ j) (some ⟨W6.heap.size, 0, none⟩) [.func (.func 143) #[] #[]] := ((sl_new W6 174 [.func (.func 143) #[] #[]] W6.heap.size (by simp)).fr E7 (fun q hq e => by omega)).mono (fun q hq _ => by omega)
  have y8 : w.heap.size < W7.heap.size := by have := f7.size; have := (f7.cell (p := ⟨w.heap.size, 0, none⟩)); have := M7.lt; omega
  have s8 : Sl W13 (fun j => w.heap.size ≤ j) (some ⟨W7.heap.size, 0, none⟩) [.func (.func 143) #[] #[]] := ((sl_new W7 174 [.func (.func 143) #[] #[]] W7.heap.size (by simp)).fr E8 (fun q hq e => by omega)).mono (fun q hq _ => by omega)
  have y9 : w.heap.size < W8.heap.size := by have := f8.size; have := (f8.cell (p := ⟨w.heap.size, 0, none⟩)); have := M8.lt; omega
  have s9 : Sl W13 (fun j => w.heap.size ≤ j) (some ⟨W8.heap.size, 0, none⟩) [.func (.func 139) #[] #[], .func (.func 142) #[] #[], .func (.func 146) #[] #[]] := ((sl_new W8 174 [.func (.func 139) #[] #[], .func (.func 142) #[] #[], .func (.func 146) #[] #[]] W8.heap.size (by simp)).fr E9 (fun q hq e => by omega)).mono (fun q hq _ => by omega)
  have y10 : w.heap.size < W9.heap.size := by have := f9.size; have := (f9.cell (p := ⟨w.heap.size, 0, none⟩)); have := M9.lt; omega
  have s10 : Sl W13 (fun j => w.heap.size ≤ j) (some ⟨W9.heap.size, 0, none⟩) [.func (.func 139) #[] #[]] := ((sl_new W9 174 [.func (.func 139) #[] #[]] W9.heap.size (by simp)).fr E10 (fun q hq e => by omega)).mono (fun q hq _ => by omega)
  have y11 : w.heap.size < W10.heap.size := by have := f10.size; have := (f10.cell (p := ⟨w.heap.size, 0, none⟩)); have := M10.lt; omega
  have s11 : Sl W13 (fun j => w.heap.size ≤ j) (some ⟨W10.heap.size, 0, none⟩) [.func (.func 144) #[] #[], .func (.func 147) #[] #[]] := ((sl_new W10 174 [.func (.func 144) #[] #[], .func (.func 147) #[] #[]] W10.heap.size (by simp)).fr E11 (fun q hq e => by omega)).mono (fun q hq _ => by omega)
  have y12 : w.heap.size < W11.heap.size := by have := f11.size; have := (f11.cell (p := ⟨w.heap.size, 0, none⟩)); have := M11.lt; omega
  have s12 : Sl W13 (fun j => w.heap.size ≤ j) (some ⟨W11.heap.size, 0, none⟩) [.func (.func 143) #[] #[], .func (.func 148) #[] #[]] := ((sl_new W11 174 [.func (.func 143) #[] #[], .func (.func 148) #[] #[]] W11.heap.size (by simp)).fr E12 (fun q hq e => by omega)).mono (fun q hq _ => by omega)
  have hlk := M13.look okind_keys t3 (zparts_any W13) k (u8Wf hk)
  clear hk
  have hfin : ∃ A, (Instr.lookup 171 (.map (some w.heap.size)) (.int .u8 k) true).run Tryz.prog W13 = .ok (.tuple #[.slice A (partsOf k).length (partsOf k).length, .bool (kindOk k)]) W13 ∧ Sl W13 (fun j => w.heap.size ≤ j) A ((partsOf k).map partV) := by
    by_cases e : 1 ≤ k ∧ k ≤ 13
    · have : k = 1 ∨ k = 2 ∨ k = 3 ∨ k = 4 ∨ k = 5 ∨ k = 6 ∨ k = 7 ∨ k = 8 ∨ k = 9 ∨ k = 10 ∨ k = 11 ∨ k = 12 ∨ k = 13 := by omega
      rcases this with rfl | rfl | rfl | rfl | rfl | rfl | rfl | rfl | rfl | rfl | rfl | rfl | rfl
      · exact ⟨_, hlk, s1⟩
      · exact ⟨_, hlk, s2⟩
      · exact ⟨_, hlk, s3⟩
      · exact ⟨_, hlk, s4⟩
      · exact ⟨_, hlk, s5⟩
      · exact ⟨_, hlk, s6⟩
      · exact ⟨_, hlk, s7⟩
      · exact ⟨_, hlk, s8⟩
      · exact ⟨_, hlk, s9⟩
      · exact ⟨_, hlk, s10⟩
      · exact ⟨_, hlk, s11⟩
      · exact ⟨_, hlk, s12⟩
      · exact ⟨_, hlk, .inl rfl⟩
    · have hp : partsOf k = [] := by
        unfold partsOf
        rw [if_neg (by omega), if_neg (by omega), if_neg (by omega), if_neg (by omega), if_neg (by omega), if_neg (by omega), if_neg (by omega), if_neg (by omega), if_neg (by omega), if_neg (by omega), if_neg (by omega), if_neg (by omega)]
      have hkk : kindOk k = false := decide_eq_false e
      rw [hp, hkk]
      simp only [show ¬ k = 1 from by omega, show ¬ k = 2 from by omega, show ¬ k = 3 from by omega, show ¬ k = 4 from by omega, show ¬ k = 5 from by omega, show ¬ k = 6 from by omega, show ¬ k = 7 from by omega, show ¬ k = 8 from by omega, show ¬ k = 9 from by omega, show ¬ k = 10 from by omega, show ¬ k = 11 from by omega, show ¬ k = 12 from by omega, show ¬ k = 13 from by omega, if_false, Option.getD_none, Option.isSome_none] at hlk
      exact ⟨none, hlk, .inl rfl⟩
  have HF := Lib.hid hfin
  clear hfin hlk M0 m1 f0 g1 h1 E1 M1 m2 f1 g2 h2 E2 M2 m3 f2 g3 h3 E3 M3 m4 f3 g4 h4 E4 M4 m5 f4 g5 h5 E5 M5 m6 f5 g6 h6 E6 M6 m7 f6 g7 h7 E7 M7 m8 f7 g8 h8 E8 M8 m9 f8 g9 h9 E9 M9 m10 f9 g10 h10 E10 M10 m11 f10 g11 h11 E11 M11 m12 f11 g12 h12 E12 M12 m13 f12 g13 h13 E13 M13 z0 y1 s1 y2 s2 y3 s3 y4 s4 y5 s5 y6 s6 y7 s7 y8 s8 y9 s9 y10 s10 y11 s11 y12 s12 t3
  go_enter Tryz.func99, Tryz.ntmps99
  go_wp2_with fail
  go_ret
  obtain ⟨A, hlk, hs⟩ := HF.out
  exact ⟨_, A, rfl, hlk, hs, f13⟩
end Go.Proofs.YtkjnlhidnkbelaaGreatDoor

/- Orders: two of them held against each other. -/
namespace Go.Proofs.YtkjnlhidnkbelaaGreatDoor
open Go Go.RowKit

set_option maxRecDepth 100000 in
theorem eqActs_any (w : World) (F1 F2 : Nat → Prop) (A1 A2 : Option Addr) (c1 c2 : Nat) (a b : List ActT) (h1 : Sl w F1 A1 (actsCells a)) (h2 : Sl w F2 A2 (actsCells b)) (hl : a.length ≤ 1000000000) :
    Calls Tryz.prog 149 #[.slice A1 a.length c1, .slice A2 b.length c2] w fun e w' => e = .returned (.bool (decide (a = b))) ∧ Nw w w' := by
  by_cases hlen : a.length = b.length
  · obtain ⟨n, hn⟩ : ∃ n, n = a.length := ⟨_, rfl⟩
    have hnb : n = b.length := hn.trans hlen
    rw [← hlen, ← hn]
    have HA := Lib.hid hn
    have HB := Lib.hid hnb
    have hl : n ≤ 1000000000 := by omega
    clear hn hnb hlen
    go_enter Tryz.func149, Tryz.ntmps149
    go_wp2_with fail
    go_loopw [13] (fun i wx => SameAcTo w a b i wx) (fun i _ => n - (intOf i).toNat)
    case atStart => exact ⟨0, Nat.zero_le _, rfl, fun _ _ _ h => by omega, Fr.refl _ _⟩
    case round =>
      obtain ⟨k, hk, rfl, hok, hq⟩ := hrel
      have HK := Lib.hid hok
      have hkn : k ≤ n := by rw [HA.out]; exact hk
      clear hok hk
      by_cases hlt : k < n
      · have hka : k < a.length := by rw [← HA.out]; exact hlt
        have hkb : k < b.length := by rw [← HB.out]; exact hlt
        obtain ⟨b1, o1, rfl, _, x1, x2, x3, x4⟩ := (h1.fr hq (fun _ _ h => h)).act hka
        obtain ⟨b2, o2, rfl, _, y1, y2, y3, y4⟩ := (h2.fr hq (fun _ _ h => h)).act hkb
        have hne := fun w => act_neq w a[k] b[k]
        obtain ⟨p, hp⟩ : ∃ p, decide (a[k] = b[k]) = p := ⟨_, rfl⟩
        rw [hp] at hne
        have HP := Lib.hid hp
        clear hp
        generalize a[k] = x at x1 x2 x3 x4 hne
        generalize b[k] = y at y1 y2 y3 y4 hne
        have d1 := fun (n : Later wr) => n.cell x1
        have d2 := fun (n : Later wr) => n.cell x2
        have d3 := fun (n : Later wr) => n.cell x3
        have d4 := fun (n : Later wr) => n.cell y1
        have d7 := fun (n : Later wr) => n.cell x4
        have d8 := fun (n : Later wr) => n.cell y4
        have d5 := fun (n : Later wr) => n.cell y2
        have d6 := fun (n : Later wr) => n.cell y3
        clear x1 x2 x3 x4 y1 y2 y3 y4
        go_wp2_with fail
        refine wp_region_later (by kernel_rfl) (by kernel_rfl) ?_
        repeat (go_big_quiet_step (fail))
        refine wpQuiet_later fun w5 q5 => ?_
        cases p
        · go_wp2_with fail
          go_ret
          refine ⟨retB (decide_eq_false fun e => ?_).symm, hq.tr q5⟩
          subst e
          have := HP.out
          simp at this
        · go_wp2_with fail
          go_roundw
          case rel =>
            refine ⟨k + 1, by omega, rfl, fun j h3 h4 hjk => ?_, hq.tr q5⟩
            by_cases hjk2 : j < k
            · exact HK.out j h3 h4 hjk2
            · obtain rfl : j = k := by omega
              exact of_decide_eq_true HP.out
          case measure => simp [intOf]; omega
      · go_wp2_with fail
        go_ret
        refine ⟨retB (decide_eq_true (List.ext_getElem (by rw [← HA.out, ← HB.out]) fun j h3 h4 => HK.out j h3 h4 (by have := HA.out; omega))).symm, hq⟩
  · have hne : ¬ (a.length : Int) = (b.length : Int) := by omega
    go_enter Tryz.func149, Tryz.ntmps149
    go_wp2_with fail
    go_ret
    exact ⟨retB (decide_eq_false fun e => hlen (by rw [e])).symm, Fr.refl _ _⟩
set_option maxRecDepth 100000 in
theorem eqReads_any (w : World) (F1 F2 : Nat → Prop) (A1 A2 : Option Addr) (c1 c2 : Nat) (a b : List Rdg) (h1 : Sl w F1 A1 (rdgsCells a)) (h2 : Sl w F2 A2 (rdgsCells b)) (hl : a.length ≤ 1000000000) :
    Calls Tryz.prog 150 #[.slice A1 a.length c1, .slice A2 b.length c2] w fun e w' => e = .returned (.bool (decide (a = b))) ∧ Nw w w' := by
  by_cases hlen : a.length = b.length
  · obtain ⟨n, hn⟩ : ∃ n, n = a.length := ⟨_, rfl⟩
    have hnb : n = b.length := hn.trans hlen
    rw [← hlen, ← hn]
    have HA := Lib.hid hn
    have HB := Lib.hid hnb
    have hl : n ≤ 1000000000 := by omega
    clear hn hnb hlen
    go_enter Tryz.func150, Tryz.ntmps150
    go_wp2_with fail
    go_loopw [13] (fun i wx => SameTo w a b i wx) (fun i _ => n - (intOf i).toNat)
    case atStart => exact ⟨0, Nat.zero_le _, rfl, fun _ _ _ h => by omega, Fr.refl _ _⟩
    case round =>
      obtain ⟨k, hk, rfl, hok, hq⟩ := hrel
      have HK := Lib.hid hok
      have hkn : k ≤ n := by rw [HA.out]; exact hk
      clear hok hk
      by_cases hlt : k < n
      · have hka : k < a.length := by rw [← HA.out]; exact hlt
        have hkb : k < b.length := by rw [← HB.out]; exact hlt
        obtain ⟨b1, o1, rfl, _, x1, x2, x3⟩ := (h1.fr hq (fun _ _ h => h)).rdg hka
        obtain ⟨b2, o2, rfl, _, y1, y2, y3⟩ := (h2.fr hq (fun _ _ h => h)).rdg hkb
        have hne := fun w => read_neq w a[k] b[k]
        obtain ⟨p, hp⟩ : ∃ p, decide (a[k] = b[k]) = p := ⟨_, rfl⟩
        rw [hp] at hne
        have HP := Lib.hid hp
        clear hp
        generalize a[k] = x at x1 x2 x3 hne
        generalize b[k] = y at y1 y2 y3 hne
        have d1 := fun (n : Later wr) => n.cell x1
        have d2 := fun (n : Later wr) => n.cell x2
        have d3 := fun (n : Later wr) => n.cell x3
        have d4 := fun (n : Later wr) => n.cell y1
        have d5 := fun (n : Later wr) => n.cell y2
        have d6 := fun (n : Later wr) => n.cell y3
        clear x1 x2 x3 y1 y2 y3
        go_wp2_with fail
        refine wp_region_later (by kernel_rfl) (by kernel_rfl) ?_
        repeat (go_big_quiet_step (fail))
        refine wpQuiet_later fun w5 q5 => ?_
        cases p
        · go_wp2_with fail
          go_ret
          refine ⟨retB (decide_eq_false fun e => ?_).symm, hq.tr q5⟩
          subst e
          have := HP.out
          simp at this
        · go_wp2_with fail
          go_roundw
          case rel =>
            refine ⟨k + 1, by omega, rfl, fun j h3 h4 hjk => ?_, hq.tr q5⟩
            by_cases hjk2 : j < k
            · exact HK.out j h3 h4 hjk2
            · obtain rfl : j = k := by omega
              exact of_decide_eq_true HP.out
          case measure => simp [intOf]; omega
      · go_wp2_with fail
        go_ret
        refine ⟨retB (decide_eq_true (List.ext_getElem (by rw [← HA.out, ← HB.out]) fun j h3 h4 => HK.out j h3 h4 (by have := HA.out; omega))).symm, hq⟩
  · have hne : ¬ (a.length : Int) = (b.length : Int) := by omega
    go_enter Tryz.func150, Tryz.ntmps150
    go_wp2_with fail
    go_ret
    exact ⟨retB (decide_eq_false fun e => hlen (by rw [e])).symm, Fr.refl _ _⟩
theorem eqf_span : Tryz.prog.underlying 29 = some (.struct (Tryz.prog.fieldsOf 29)) := by kernel_rfl
theorem stood_span : Tryz.prog.stoodInHeld 29 = false := by kernel_rfl
theorem span_eq (w : World) (a b c d : List UInt8) : (Op.equalIn 10000 29 (.agg #[StrV a, StrV b]) (.agg #[StrV c, StrV d])).run Tryz.prog w = .ok (decide (a = c ∧ b = d)) w := by
  rw [run_equalIn_agg w 9999 _ _ _ eqf_span stood_span]
  unfold Program.fieldsOf
  simp only [Tryz.underlying29]
  simp [Op.eqFields, go_sem, Tryz.underlying9]
  by_cases h1 : a = c
  · by_cases h2 : b = d
    · simp [h1, h2]
    · simp [h1, h2]
  · simp [h1]
theorem span_eql (w : World) (a b c d : List UInt8) : (binOp .eql 29 (.agg #[StrV a, StrV b]) (.agg #[StrV c, StrV d])).run Tryz.prog w = .ok (.bool (decide (a = c ∧ b = d))) w := by
  rw [run_eql_struct, span_eq]; rfl
/-- What is asked of two orders of one kind. -/
theorem ordF_eq (x y : OrdF) (hk : x.kind = y.kind) : decide (x = y) = (decide (x.nm = y.nm) && (decide (x.epoch = y.epoch) && (decide (x.acts = y.acts) && (decide (x.commit = y.commit) && (decide (x.reads = y.reads) && (decide (x.scheme = y.scheme) && (decide (x.stage = y.stage) && (decide (x.to = y.to) && (decide (x.lo = y.lo ∧ x.hi = y.hi) && decide (x.bytes = y.bytes)))))))))) := by
  obtain ⟨k1, n1, e1, a1, c1, r1, s1, t1, o1, l1, h1, b1⟩ := x
  obtain ⟨k2, n2, e2, a2, c2, r2, s2, t2, o2, l2, h2, b2⟩ := y
  obtain rfl : k1 = k2 := hk
  rw [Bool.eq_iff_iff]
  simp only [decide_eq_true_eq, Bool.and_eq_true, OrdF.mk.injEq, true_and, and_assoc]
end Go.Proofs.YtkjnlhidnkbelaaGreatDoor
/- Orders, answers held against each other. (Printed by gensame.py.) -/
namespace Go.Proofs.YtkjnlhidnkbelaaGreatDoor
open Go Go.RowKit
set_option linter.unusedVariables false
set_option linter.unusedSimpArgs false

theorem ordF_eqk (x y : OrdF) : decide (x = y) = (decide (x.kind = y.kind) && (decide (x.nm = y.nm) && (decide (x.epoch = y.epoch) && (decide (x.acts = y.acts) && (decide (x.commit = y.commit) && (decide (x.reads = y.reads) && (decide (x.scheme = y.scheme) && (decide (x.stage = y.stage) && (decide (x.to = y.to) && (decide (x.lo = y.lo ∧ x.hi = y.hi) && decide (x.bytes = y.bytes))))))))))) := by
  obtain ⟨k1, n1, e1, a1, c1, r1, s1, t1, o1, l1, h1, b1⟩ := x
  obtain ⟨k2, n2, e2, a2, c2, r2, s2, t2, o2, l2, h2, b2⟩ := y
  rw [Bool.eq_iff_iff]
  simp only [decide_eq_true_eq, Bool.and_eq_true, OrdF.mk.injEq, and_assoc]
theorem ansF_eq (x y : AnsF) : decide (x = y) = (decide (x.err = y.err) && (decide (x.nm = y.nm) && (decide (x.is = y.is) && (decide (x.commit = y.commit) && (decide (x.reads = y.reads) && (decide (x.scheme = y.scheme) && (decide (x.stage = y.stage) && decide (x.bytes = y.bytes)))))))) := by
  obtain ⟨k1, n1, e1, c1, r1, s1, t1, b1⟩ := x
  obtain ⟨k2, n2, e2, c2, r2, s2, t2, b2⟩ := y
  rw [Bool.eq_iff_iff]
  simp only [decide_eq_true_eq, Bool.and_eq_true, AnsF.mk.injEq, and_assoc]
theorem beq_int (a b : Int) : (a == b) = decide (a = b) := rfl
theorem beq_bool (a b : Bool) : (a == b) = decide (a = b) := by cases a <;> cases b <;> rfl
end Go.Proofs.YtkjnlhidnkbelaaGreatDoor

namespace Go.Proofs.YtkjnlhidnkbelaaGreatDoor
open Go Go.RowKit
set_option maxRecDepth 100000 in
set_option maxHeartbeats 8000000 in
theorem osame_any (w : World) (F1 F2 : Nat → Prop) (x y : OrdF) (p q : Pl) (hk : x.kind = y.kind) (hx : OrdIn w F1 x p) (hy : OrdIn w F2 y q) (hzx : OrdSz x) :
    Calls Tryz.prog 100 #[.agg (ofA (U8V x.kind) x p), .agg (ofA (U8V y.kind) y q)] w fun e w' => e = .returned (.bool (decide (x = y))) ∧ Nw w w' := by
  have hay : ofA (U8V y.kind) y q = ofA (U8V x.kind) y q := by rw [hk]
  rw [hay]
  rw [ordF_eq x y hk]
  have HK := Lib.hid hk
  clear hk hay
  obtain ⟨W0, hW0⟩ : ∃ W0, W0 = w.alloc (.cells (ofA (U8V x.kind) x p) 31) := ⟨_, rfl⟩
  have q0 : Nw w W0 := by rw [hW0]; exact (Fr.refl (fun _ => False) w).alloc _
  have x0 : Blk W0 w.heap.size 31 (ofA (U8V x.kind) x p) := by rw [hW0]; exact Blk.new w _ _
  have hz0 : W0.heap.size = w.heap.size + 1 := by rw [hW0]; simp
  obtain ⟨W1, hW1⟩ : ∃ W1, W1 = W0.alloc (.cells (ofA (U8V x.kind) y q) 31) := ⟨_, rfl⟩
  have q1 : Nw W0 W1 := by rw [hW1]; exact (Fr.refl (fun _ => False) W0).alloc _
  have y1 : Blk W1 (w.heap.size + 1) 31 (ofA (U8V x.kind) y q) := by rw [hW1, ← hz0]; exact Blk.new W0 _ _
  have x1 := x0.fr q1 (fun h => h)
  have q01 := q0.tr q1
  obtain ⟨d1, e1⟩ : ∃ d, decide (x.nm = y.nm) = d := ⟨_, rfl⟩
  have z1 := fun w => name_eql w x.nm y.nm
  simp only [e1] at z1
  obtain ⟨d2, e2⟩ : ∃ d, decide (x.epoch = y.epoch) = d := ⟨_, rfl⟩
  have z2 : (x.epoch == y.epoch) = d2 := (beq_int _ _).trans e2
  obtain ⟨d3, e3⟩ : ∃ d, decide (x.acts = y.acts) = d := ⟨_, rfl⟩
  have z3 : ∀ w1, Nw W1 w1 → Calls Tryz.prog 149 #[.slice p.a x.acts.length p.ca, .slice q.a y.acts.length q.ca] w1 fun e w' => e = .returned (.bool d3) ∧ Nw w1 w' := fun w1 f => by
    rw [← e3]
    exact eqActs_any w1 F1 F2 p.a q.a p.ca q.ca x.acts y.acts (hx.acts.fr (q01.tr f) (fun _ _ h => h)) (hy.acts.fr (q01.tr f) (fun _ _ h => h)) hzx.acts.1
  obtain ⟨d4, e4⟩ : ∃ d, decide (x.commit = y.commit) = d := ⟨_, rfl⟩
  have z4 : (x.commit == y.commit) = d4 := (beq_bool _ _).trans e4
  obtain ⟨d5, e5⟩ : ∃ d, decide (x.reads = y.reads) = d := ⟨_, rfl⟩
  have z5 : ∀ w1, Nw W1 w1 → Calls Tryz.prog 150 #[.slice p.r x.reads.length p.cr, .slice q.r y.reads.length q.cr] w1 fun e w' => e = .returned (.bool d5) ∧ Nw w1 w' := fun w1 f => by
    rw [← e5]
    exact eqReads_any w1 F1 F2 p.r q.r p.cr q.cr x.reads y.reads (hx.reads.fr (q01.tr f) (fun _ _ h => h)) (hy.reads.fr (q01.tr f) (fun _ _ h => h)) hzx.reads.1
  obtain ⟨d6, e6⟩ : ∃ d, decide (x.scheme = y.scheme) = d := ⟨_, rfl⟩
  have z6 : (x.scheme == y.scheme) = d6 := (beq_int _ _).trans e6
  obtain ⟨d7, e7⟩ : ∃ d, decide (x.stage = y.stage) = d := ⟨_, rfl⟩
  have z7 : (x.stage == y.stage) = d7 := (beq_int _ _).trans e7
  obtain ⟨d8, e8⟩ : ∃ d, decide (x.to = y.to) = d := ⟨_, rfl⟩
  have z8 : (x.to == y.to) = d8 := (beq_int _ _).trans e8
  obtain ⟨d9, e9⟩ : ∃ d, decide (x.lo = y.lo ∧ x.hi = y.hi) = d := ⟨_, rfl⟩
  have z9 := fun w => span_eql w x.lo x.hi y.lo y.hi
  simp only [e9] at z9
  obtain ⟨d10, e10⟩ : ∃ d, decide (x.bytes = y.bytes) = d := ⟨_, rfl⟩
  have z10 : ∀ w1, Nw W1 w1 → Calls Tryz.prog 151 #[.slice p.b x.bytes.length p.cb, .slice q.b y.bytes.length q.cb] w1 fun e w' => e = .returned (.bool d10) ∧ Nw w1 w' := fun w1 f => by
    rw [← e10]
    exact bequal_any w1 F1 F2 p.b q.b p.cb q.cb x.bytes y.bytes (hx.bytes.fr (q01.tr f) (fun _ _ h => h)) (hy.bytes.fr (q01.tr f) (fun _ _ h => h))
  rw [e1, e2, e3, e4, e5, e6, e7, e8, e9, e10]
  have hS : ∀ w1, Nw W1 w1 → w1.cell? ⟨w.heap.size, 0, none⟩ = some (U8V x.kind) ∧ w1.cell? ⟨w.heap.size, 1, none⟩ = some (I64 x.nm.1) ∧ w1.cell? ⟨w.heap.size, 2, none⟩ = some (I64 x.nm.2) ∧ w1.cell? ⟨w.heap.size, 3, none⟩ = some (I64 x.epoch) ∧ w1.cell? ⟨w.heap.size, 4, none⟩ = some (.slice p.a x.acts.length p.ca) ∧ w1.cell? ⟨w.heap.size, 5, none⟩ = some (.bool x.commit) ∧ w1.cell? ⟨w.heap.size, 6, none⟩ = some (.slice p.r x.reads.length p.cr) ∧ w1.cell? ⟨w.heap.size, 7, none⟩ = some (I64 x.scheme) ∧ w1.cell? ⟨w.heap.size, 8, none⟩ = some (I64 x.stage) ∧ w1.cell? ⟨w.heap.size, 9, none⟩ = some (I64 x.to) ∧ w1.cell? ⟨w.heap.size, 10, none⟩ = some (StrV x.lo) ∧ w1.cell? ⟨w.heap.size, 11, none⟩ = some (StrV x.hi) ∧ w1.cell? ⟨w.heap.size, 12, none⟩ = some (.slice p.b x.bytes.length p.cb) ∧ w1.cell? ⟨w.heap.size + 1, 0, none⟩ = some (U8V x.kind) ∧ w1.cell? ⟨w.heap.size + 1, 1, none⟩ = some (I64 y.nm.1) ∧ w1.cell? ⟨w.heap.size + 1, 2, none⟩ = some (I64 y.nm.2) ∧ w1.cell? ⟨w.heap.size + 1, 3, none⟩ = some (I64 y.epoch) ∧ w1.cell? ⟨w.heap.size + 1, 4, none⟩ = some (.slice q.a y.acts.length q.ca) ∧ w1.cell? ⟨w.heap.size + 1, 5, none⟩ = some (.bool y.commit) ∧ w1.cell? ⟨w.heap.size + 1, 6, none⟩ = some (.slice q.r y.reads.length q.cr) ∧ w1.cell? ⟨w.heap.size + 1, 7, none⟩ = some (I64 y.scheme) ∧ w1.cell? ⟨w.heap.size + 1, 8, none⟩ = some (I64 y.stage) ∧ w1.cell? ⟨w.heap.size + 1, 9, none⟩ = some (I64 y.to) ∧ w1.cell? ⟨w.heap.size + 1, 10, none⟩ = some (StrV y.lo) ∧ w1.cell? ⟨w.heap.size + 1, 11, none⟩ = some (StrV y.hi) ∧ w1.cell? ⟨w.heap.size + 1, 12, none⟩ = some (.slice q.b y.bytes.length q.cb) := fun w1 f => by
    have a := x1.fr f (fun h => h)
    have b := y1.fr f (fun h => h)
    exact ⟨by simpa using a.cell 0, by simpa using a.cell 1, by simpa using a.cell 2, by simpa using a.cell 3, by simpa using a.cell 4, by simpa using a.cell 5, by simpa using a.cell 6, by simpa using a.cell 7, by simpa using a.cell 8, by simpa using a.cell 9, by simpa using a.cell 10, by simpa using a.cell 11, by simpa using a.cell 12, by simpa using b.cell 0, by simpa using b.cell 1, by simpa using b.cell 2, by simpa using b.cell 3, by simpa using b.cell 4, by simpa using b.cell 5, by simpa using b.cell 6, by simpa using b.cell 7, by simpa using b.cell 8, by simpa using b.cell 9, by simpa using b.cell 10, by simpa using b.cell 11, by simpa using b.cell 12⟩
  have HW0 := Lib.hid hW0
  have HW1 := Lib.hid hW1
  have hS1 := hS W1 (Fr.refl _ _)
  clear hW0 hW1 x0 y1 x1 hx hy e1 e2 e3 e4 e5 e6 e7 e8 e9 e10
  cases d1 with
  | false =>
    go_enter Tryz.func100, Tryz.ntmps100
    go_wp2_with fail
    go_ret
    exact ⟨by simp, by have h := q01; rw [HW1.out, HW0.out] at h; exact h⟩
  | true =>
    cases d2 with
    | false =>
      go_enter Tryz.func100, Tryz.ntmps100
      go_wp2_with fail
      go_ret
      exact ⟨by simp, by have h := q01; rw [HW1.out, HW0.out] at h; exact h⟩
    | true =>
      cases d3 with
      | false =>
        go_enter Tryz.func100, Tryz.ntmps100
        go_wp2_with fail
        rw [← HW0.out, ← HW1.out]
        refine (z3 _ (Fr.refl _ W1)).mono ?_
        rintro e v1 ⟨rfl, r1⟩
        have Q1 := (Fr.refl (fun _ => False) W1).tr r1
        go_wp2_with fail
        go_ret
        exact ⟨by simp, q01.tr Q1⟩
      | true =>
        cases d4 with
        | false =>
          go_enter Tryz.func100, Tryz.ntmps100
          go_wp2_with fail
          rw [← HW0.out, ← HW1.out]
          refine (z3 _ (Fr.refl _ W1)).mono ?_
          rintro e v1 ⟨rfl, r1⟩
          have Q1 := (Fr.refl (fun _ => False) W1).tr r1
          obtain ⟨k0, k1, k2, k3, k4, k5, k6, k7, k8, k9, k10, k11, k12, k13, k14, k15, k16, k17, k18, k19, k20, k21, k22, k23, k24, k25⟩ := hS v1 Q1
          go_wp2_with fail
          go_ret
          exact ⟨by simp, q01.tr Q1⟩
        | true =>
          cases d5 with
          | false =>
            go_enter Tryz.func100, Tryz.ntmps100
            go_wp2_with fail
            rw [← HW0.out, ← HW1.out]
            refine (z3 _ (Fr.refl _ W1)).mono ?_
            rintro e v1 ⟨rfl, r1⟩
            have Q1 := (Fr.refl (fun _ => False) W1).tr r1
            obtain ⟨k0, k1, k2, k3, k4, k5, k6, k7, k8, k9, k10, k11, k12, k13, k14, k15, k16, k17, k18, k19, k20, k21, k22, k23, k24, k25⟩ := hS v1 Q1
            go_wp2_with fail
            refine (z5 _ Q1).mono ?_
            rintro e v2 ⟨rfl, r2⟩
            have Q2 := Q1.tr r2
            go_wp2_with fail
            go_ret
            exact ⟨by simp, q01.tr Q2⟩
          | true =>
            cases d6 with
            | false =>
              go_enter Tryz.func100, Tryz.ntmps100
              go_wp2_with fail
              rw [← HW0.out, ← HW1.out]
              refine (z3 _ (Fr.refl _ W1)).mono ?_
              rintro e v1 ⟨rfl, r1⟩
              have Q1 := (Fr.refl (fun _ => False) W1).tr r1
              obtain ⟨k0, k1, k2, k3, k4, k5, k6, k7, k8, k9, k10, k11, k12, k13, k14, k15, k16, k17, k18, k19, k20, k21, k22, k23, k24, k25⟩ := hS v1 Q1
              go_wp2_with fail
              refine (z5 _ Q1).mono ?_
              rintro e v2 ⟨rfl, r2⟩
              have Q2 := Q1.tr r2
              obtain ⟨k0, k1, k2, k3, k4, k5, k6, k7, k8, k9, k10, k11, k12, k13, k14, k15, k16, k17, k18, k19, k20, k21, k22, k23, k24, k25⟩ := hS v2 Q2
              go_wp2_with fail
              go_ret
              exact ⟨by simp, q01.tr Q2⟩
            | true =>
              cases d7 with
              | false =>
                go_enter Tryz.func100, Tryz.ntmps100
                go_wp2_with fail
                rw [← HW0.out, ← HW1.out]
                refine (z3 _ (Fr.refl _ W1)).mono ?_
                rintro e v1 ⟨rfl, r1⟩
                have Q1 := (Fr.refl (fun _ => False) W1).tr r1
                obtain ⟨k0, k1, k2, k3, k4, k5, k6, k7, k8, k9, k10, k11, k12, k13, k14, k15, k16, k17, k18, k19, k20, k21, k22, k23, k24, k25⟩ := hS v1 Q1
                go_wp2_with fail
                refine (z5 _ Q1).mono ?_
                rintro e v2 ⟨rfl, r2⟩
                have Q2 := Q1.tr r2
                obtain ⟨k0, k1, k2, k3, k4, k5, k6, k7, k8, k9, k10, k11, k12, k13, k14, k15, k16, k17, k18, k19, k20, k21, k22, k23, k24, k25⟩ := hS v2 Q2
                go_wp2_with fail
                go_ret
                exact ⟨by simp, q01.tr Q2⟩
              | true =>
                cases d8 with
                | false =>
                  go_enter Tryz.func100, Tryz.ntmps100
                  go_wp2_with fail
                  rw [← HW0.out, ← HW1.out]
                  refine (z3 _ (Fr.refl _ W1)).mono ?_
                  rintro e v1 ⟨rfl, r1⟩
                  have Q1 := (Fr.refl (fun _ => False) W1).tr r1
                  obtain ⟨k0, k1, k2, k3, k4, k5, k6, k7, k8, k9, k10, k11, k12, k13, k14, k15, k16, k17, k18, k19, k20, k21, k22, k23, k24, k25⟩ := hS v1 Q1
                  go_wp2_with fail
                  refine (z5 _ Q1).mono ?_
                  rintro e v2 ⟨rfl, r2⟩
                  have Q2 := Q1.tr r2
                  obtain ⟨k0, k1, k2, k3, k4, k5, k6, k7, k8, k9, k10, k11, k12, k13, k14, k15, k16, k17, k18, k19, k20, k21, k22, k23, k24, k25⟩ := hS v2 Q2
                  go_wp2_with fail
                  go_ret
                  exact ⟨by simp, q01.tr Q2⟩
                | true =>
                  cases d9 with
                  | false =>
                    go_enter Tryz.func100, Tryz.ntmps100
                    go_wp2_with fail
                    rw [← HW0.out, ← HW1.out]
                    refine (z3 _ (Fr.refl _ W1)).mono ?_
                    rintro e v1 ⟨rfl, r1⟩
                    have Q1 := (Fr.refl (fun _ => False) W1).tr r1
                    obtain ⟨k0, k1, k2, k3, k4, k5, k6, k7, k8, k9, k10, k11, k12, k13, k14, k15, k16, k17, k18, k19, k20, k21, k22, k23, k24, k25⟩ := hS v1 Q1
                    go_wp2_with fail
                    refine (z5 _ Q1).mono ?_
                    rintro e v2 ⟨rfl, r2⟩
                    have Q2 := Q1.tr r2
                    obtain ⟨k0, k1, k2, k3, k4, k5, k6, k7, k8, k9, k10, k11, k12, k13, k14, k15, k16, k17, k18, k19, k20, k21, k22, k23, k24, k25⟩ := hS v2 Q2
                    go_wp2_with fail
                    go_ret
                    exact ⟨by simp, q01.tr Q2⟩
                  | true =>
                    cases d10 with
                    | false =>
                      go_enter Tryz.func100, Tryz.ntmps100
                      go_wp2_with fail
                      rw [← HW0.out, ← HW1.out]
                      refine (z3 _ (Fr.refl _ W1)).mono ?_
                      rintro e v1 ⟨rfl, r1⟩
                      have Q1 := (Fr.refl (fun _ => False) W1).tr r1
                      obtain ⟨k0, k1, k2, k3, k4, k5, k6, k7, k8, k9, k10, k11, k12, k13, k14, k15, k16, k17, k18, k19, k20, k21, k22, k23, k24, k25⟩ := hS v1 Q1
                      go_wp2_with fail
                      refine (z5 _ Q1).mono ?_
                      rintro e v2 ⟨rfl, r2⟩
                      have Q2 := Q1.tr r2
                      obtain ⟨k0, k1, k2, k3, k4, k5, k6, k7, k8, k9, k10, k11, k12, k13, k14, k15, k16, k17, k18, k19, k20, k21, k22, k23, k24, k25⟩ := hS v2 Q2
                      go_wp2_with fail
                      refine (z10 _ Q2).mono ?_
                      rintro e v3 ⟨rfl, r3⟩
                      have Q3 := Q2.tr r3
                      go_wp2_with fail
                      go_ret
                      exact ⟨by simp, q01.tr Q3⟩
                    | true =>
                      go_enter Tryz.func100, Tryz.ntmps100
                      go_wp2_with fail
                      rw [← HW0.out, ← HW1.out]
                      refine (z3 _ (Fr.refl _ W1)).mono ?_
                      rintro e v1 ⟨rfl, r1⟩
                      have Q1 := (Fr.refl (fun _ => False) W1).tr r1
                      obtain ⟨k0, k1, k2, k3, k4, k5, k6, k7, k8, k9, k10, k11, k12, k13, k14, k15, k16, k17, k18, k19, k20, k21, k22, k23, k24, k25⟩ := hS v1 Q1
                      go_wp2_with fail
                      refine (z5 _ Q1).mono ?_
                      rintro e v2 ⟨rfl, r2⟩
                      have Q2 := Q1.tr r2
                      obtain ⟨k0, k1, k2, k3, k4, k5, k6, k7, k8, k9, k10, k11, k12, k13, k14, k15, k16, k17, k18, k19, k20, k21, k22, k23, k24, k25⟩ := hS v2 Q2
                      go_wp2_with fail
                      refine (z10 _ Q2).mono ?_
                      rintro e v3 ⟨rfl, r3⟩
                      have Q3 := Q2.tr r3
                      go_wp2_with fail
                      go_ret
                      exact ⟨by simp, q01.tr Q3⟩
end Go.Proofs.YtkjnlhidnkbelaaGreatDoor

namespace Go.Proofs.YtkjnlhidnkbelaaGreatDoor
open Go Go.RowKit

def fnOf : Part → Nat
  | .name => 139
  | .epoch => 140
  | .acts => 141
  | .commit => 142
  | .reads => 146
  | .scheme => 143
  | .stage => 148
  | .group => 147
  | .stretch => 144
  | .load => 145
theorem partV_fn (r : Part) : partV r = .func (.func (fnOf r)) #[] #[] := by cases r <;> rfl
theorem op_any (r : Part) (w : World) (g : Nat) (k : Int) (x y : OrdF) (p q : Pl) (hb : Blk w g 31 (ofA (U8V k) y q)) (F : Nat → Prop) (hi : OrdIn w F x p) (hFg : ∀ j, F j → ¬ j = g) (hz : OrdSz x) :
    Calls Tryz.prog (fnOf r) #[.agg (ofA (U8V k) x p), .pointer (some ⟨g, 0, none⟩)] w fun e w' => PartTo w g k (partOk x r) (partTo x y r) (plTo p q r) e w' := by
  cases r
  · exact op_name w g k x y p q hb
  · exact op_epoch w g k x y p q hb
  · exact op_acts w g k x y p q hb F hi hFg hz
  · exact op_commit w g k x y p q hb
  · exact op_reads w g k x y p q hb F hi hFg hz
  · exact op_scheme w g k x y p q hb
  · exact op_stage w g k x y p q hb
  · exact op_group w g k x y p q hb
  · exact op_stretch w g k x y p q hb hz
  · exact op_load w g k x y p q hb
theorem enter_fn (r : Part) (args : Array Value) (w : World) : (callFunc (fnOf r) args).run Tryz.prog w = .ok (.enter (fnOf r) args) w := by
  cases r <;> kernel_rfl
def plF (p : Pl) (l : List Part) : Pl := l.foldl (plTo p) plZ
theorem onlyF_snoc (x : OrdF) (l : List Part) (k : Nat) (h : k < l.length) : onlyF x (l.take (k + 1)) = partTo x (onlyF x (l.take k)) l[k] := by
  unfold onlyF
  rw [List.take_succ_eq_append_getElem h, List.foldl_append]
  rfl
theorem plF_snoc (p : Pl) (l : List Part) (k : Nat) (h : k < l.length) : plF p (l.take (k + 1)) = plTo p (plF p (l.take k)) l[k] := by
  unfold plF
  rw [List.take_succ_eq_append_getElem h, List.foldl_append]
  rfl
theorem partTo_kind (x y : OrdF) (r : Part) : (partTo x y r).kind = y.kind := by cases r <;> rfl
theorem fold_kind (x : OrdF) (l : List Part) (y : OrdF) : (l.foldl (partTo x) y).kind = y.kind := by
  induction l generalizing y with
  | nil => rfl
  | cons r l ih => rw [List.foldl_cons, ih, partTo_kind]
theorem OrdIn.part {w : World} {F : Nat → Prop} {x y : OrdF} {p q : Pl} (hx : OrdIn w F x p) (hy : OrdIn w F y q) (r : Part) : OrdIn w F (partTo x y r) (plTo p q r) := by
  obtain ⟨a1, a2, a3, a4, a5, a6⟩ := hx
  obtain ⟨b1, b2, b3, b4, b5, b6⟩ := hy
  cases r <;> constructor <;> assumption
theorem OrdIn.zero (w : World) (F : Nat → Prop) (k : Int) : OrdIn w F (ordZ k) plZ :=
  ⟨.inl rfl, .inl rfl, .inl rfl, ⟨Nat.le_refl _, Nat.zero_le _⟩, ⟨Nat.le_refl _, Nat.zero_le _⟩, ⟨Nat.le_refl _, Nat.zero_le _⟩⟩
theorem fold_in {w : World} {F : Nat → Prop} {x : OrdF} {p : Pl} (hx : OrdIn w F x p) (l : List Part) (y : OrdF) (q : Pl) (hy : OrdIn w F y q) : OrdIn w F (l.foldl (partTo x) y) (l.foldl (plTo p) q) := by
  induction l generalizing y q with
  | nil => exact hy
  | cons r l ih => exact ih _ _ (hx.part hy r)
theorem parts_len (k : Int) : (partsOf k).length ≤ 3 := by
  by_cases h : 1 ≤ k ∧ k ≤ 13
  · have : k = 1 ∨ k = 2 ∨ k = 3 ∨ k = 4 ∨ k = 5 ∨ k = 6 ∨ k = 7 ∨ k = 8 ∨ k = 9 ∨ k = 10 ∨ k = 11 ∨ k = 12 ∨ k = 13 := by omega
    rcases this with rfl | rfl | rfl | rfl | rfl | rfl | rfl | rfl | rfl | rfl | rfl | rfl | rfl <;> decide
  · have e : partsOf k = [] := by
      unfold partsOf
      rw [if_neg (by omega), if_neg (by omega), if_neg (by omega), if_neg (by omega), if_neg (by omega), if_neg (by omega), if_neg (by omega), if_neg (by omega), if_neg (by omega), if_neg (by omega), if_neg (by omega), if_neg (by omega)]
    rw [e]
    exact Nat.zero_le _
theorem onlyF_kind (x : OrdF) (l : List Part) : (onlyF x l).kind = x.kind := fold_kind x l (ordZ x.kind)
theorem only_in {w : World} {F : Nat → Prop} {x : OrdF} {p : Pl} (hx : OrdIn w F x p) (l : List Part) : OrdIn w F (onlyF x l) (plF p l) := fold_in hx l (ordZ x.kind) plZ (OrdIn.zero w F _)
/-- The parts before the j-th are taken over. -/
def RtTo (w : World) (g : Nat) (x : OrdF) (p : Pl) (n : Nat) (is i : Value) (wx : World) : Prop :=
  ∃ j : Nat, j ≤ n ∧ i = .int .i64 j ∧ is = .bool (kindOk x.kind && ((partsOf x.kind).take j).all (partOk x)) ∧ Blk wx g 31 (ofA (U8V x.kind) (onlyF x ((partsOf x.kind).take j)) (plF p ((partsOf x.kind).take j))) ∧ Fr (· = g) w wx
theorem all_snoc (x : OrdF) (l : List Part) (k : Nat) (h : k < l.length) : (l.take (k + 1)).all (partOk x) = ((l.take k).all (partOk x) && partOk x l[k]) := by
  rw [List.take_succ_eq_append_getElem h, List.all_append]
  simp
set_option maxRecDepth 100000 in
set_option maxHeartbeats 2000000 in
theorem oright1_any (w : World) (F : Nat → Prop) (x : OrdF) (p : Pl) (hi : OrdIn w F x p) (hz : OrdSz x) :
    Calls Tryz.prog 47 #[.agg (ofA (U8V x.kind) x p)] w fun e w' => e = .returned (.bool (ordOk x)) ∧ Nw w w' := by
  obtain ⟨W0, hW0⟩ : ∃ W0, W0 = w.alloc (.cells (ofA (U8V x.kind) x p) 31) := ⟨_, rfl⟩
  have q0 : Nw w W0 := by rw [hW0]; exact (Fr.refl (fun _ => False) w).alloc _
  have x0 : Blk W0 w.heap.size 31 (ofA (U8V x.kind) x p) := by rw [hW0]; exact Blk.new w _ _
  have hz0 : W0.heap.size = w.heap.size + 1 := by rw [hW0]; simp
  have cx0 : W0.drew.cell? ⟨w.heap.size, 0, none⟩ = some (U8V x.kind) := by simpa using x0.cell 0
  have hpa := parts_any W0.drew x.kind hz.kind
  obtain ⟨r, hr⟩ : ∃ r, ordOk x = r := ⟨_, rfl⟩
  rw [hr]
  have HR := Lib.hid hr
  clear hr
  obtain ⟨n, hn⟩ : ∃ n, (partsOf x.kind).length = n := ⟨_, rfl⟩
  have hnl : n ≤ 3 := hn ▸ parts_len x.kind
  have hK : ∀ w1, Nw W0.drew w1 → w1.cell? ⟨w.heap.size, 0, none⟩ = some (U8V x.kind) := fun w1 f => by simpa using (x0.fr ((Fr.refl (fun _ => False) W0).drew.tr f) (fun h => h)).cell 0
  have HW0 := Lib.hid hW0
  clear hW0
  go_enter Tryz.func47, Tryz.ntmps47
  go_upto_region 1 with (fail)
  rw [← HW0.out]
  go_region_held3 (fun w' => w'.cell? ⟨w.heap.size, 0, none⟩ = some (U8V x.kind)) (first | (exact cx0) | (exact kk) | fail)
    ((first | (go_at_call 99; refine hpa.mono ?_; rintro e w1 ⟨b, A, rfl, hlk, hs, q1⟩; have kk := hK w1 q1)))
  case _ =>
    rw [hn] at hlk
    obtain ⟨W2, hW2⟩ : ∃ W2, W2 = w1.alloc (.cells (zO (U8V x.kind)) 31) := ⟨_, rfl⟩
    have q2 : Nw w1 W2 := by rw [hW2]; exact (Fr.refl (fun _ => False) w1).alloc _
    have o2 : Blk W2 w1.heap.size 31 (ofA (U8V x.kind) (ordZ x.kind) plZ) := by rw [hW2]; exact Blk.new w1 _ _
    have Q0 : Nw w W2 := (q0.drew.tr q1).tr q2
    have x2 : Blk W2 w.heap.size 31 (ofA (U8V x.kind) x p) := (x0.fr ((Fr.refl (fun _ => False) W0).drew.tr q1) (fun h => h)).fr q2 (fun h => h)
    have hg : w.heap.size < w1.heap.size := by have := q1.size; have e : W0.drew.heap.size = W0.heap.size := rfl; omega
    have hs2 : Sl W2 (fun j => j < w1.heap.size) A (List.map partV (partsOf x.kind)) := (hs.mono (fun j _ h => h)).fr q2 (fun _ _ h => h)
    have hi2 : OrdIn W2 (fun j => j < w.heap.size ∧ F j) x p := (hi.mono fun j h1 h2 => ⟨h2, h1⟩).fr Q0 (fun _ _ h => h)
    have HW2 := Lib.hid hW2
    obtain ⟨w0, hw0⟩ : ∃ w0, w0 = w.heap.size := ⟨_, rfl⟩
    clear hW2 hs hK cx0 kk
    have HN := Lib.hid hn
    clear hn
    go_upto_region 3 with (fail)
    rw [← HW2.out]
    go_wp2_with fail
    go_loopw [4, 20] (fun is i wx => RtTo W2 w1.heap.size x p n is i wx) (fun _ i _ => n - (intOf i).toNat)
    case atStart => exact ⟨0, Nat.zero_le _, rfl, by simp, o2, Fr.refl _ _⟩
    case round =>
      obtain ⟨j, hj, rfl, rfl, hb, hf⟩ := hrel
      have xb := x2.fr hf (fun h => by omega)
      have hsj := hs2.fr hf (fun _ h e => by omega)
      have hij := hi2.fr hf (fun _ h e => by omega)
      by_cases hlt : j < n
      · have hlt2 : j < (partsOf x.kind).length := by rw [HN.out]; exact hlt
        obtain ⟨b1, o1, rfl, _, hc⟩ := hsj.get hlt2
        rw [partV_fn] at hc
        have hop := fun wz (f : Nw wr wz) => op_any (partsOf x.kind)[j] wz w1.heap.size x.kind x _ p _ (hb.fr f (fun h => h)) _ (hij.fr f (fun _ _ h => h)) (fun _ h => by omega) hz
        have hsn := onlyF_snoc x _ j hlt2
        have hpn := plF_snoc p _ j hlt2
        have han := all_snoc x _ j hlt2
        have hen := enter_fn (partsOf x.kind)[j]
        obtain ⟨f, hfn⟩ : ∃ f, fnOf (partsOf x.kind)[j] = f := ⟨_, rfl⟩
        obtain ⟨ok, hok⟩ : ∃ ok, partOk x (partsOf x.kind)[j] = ok := ⟨_, rfl⟩
        obtain ⟨is, his⟩ : ∃ is, (kindOk x.kind && ((partsOf x.kind).take j).all (partOk x)) = is := ⟨_, rfl⟩
        rw [hfn] at hop hc hen
        rw [hok] at hop han
        rw [his]
        have HS := Lib.hid (And.intro hsn (And.intro hpn (And.intro han his)))
        clear hsn hpn han his hfn hok hb
        cases ok
        all_goals
          go_wp2_with (first | (refine wpList_load_row rfl 31 _ rfl w.heap.size rfl 31 _ (0, 0) _ xb Tryz.underlying31 rfl ord_size ?_))
          refine (hop _ (Fr.refl _ _)).mono ?_
          rintro e w3 ⟨rfl, hb3, hf3⟩
          go_wp2_with fail
          go_roundw
          case rel => exact ⟨j + 1, by omega, rfl, by rw [HS.out.2.2.1, ← Bool.and_assoc, HS.out.2.2.2]; simp, by rw [HS.out.1, HS.out.2.1]; exact hb3, hf.tr hf3⟩
          case measure => simp [intOf]; omega
      · have hjn : j = (partsOf x.kind).length := by have := HN.out; omega
        rw [hjn, List.take_length] at hb ⊢
        have hsa := fun wz (f : Nw wr wz) => osame_any wz _ _ x (onlyF x (partsOf x.kind)) p (plF p (partsOf x.kind)) (onlyF_kind x _).symm (hij.fr f (fun _ _ h => h)) ((only_in hij _).fr f (fun _ _ h => h)) hz
        rw [onlyF_kind] at hsa
        have hok : ordOk x = ((kindOk x.kind && (partsOf x.kind).all (partOk x)) && decide (x = onlyF x (partsOf x.kind))) := rfl
        rw [HR.out] at hok
        obtain ⟨is, his⟩ : ∃ is, (kindOk x.kind && (partsOf x.kind).all (partOk x)) = is := ⟨_, rfl⟩
        rw [his] at hok ⊢
        obtain ⟨d, hd⟩ : ∃ d, decide (x = onlyF x (partsOf x.kind)) = d := ⟨_, rfl⟩
        simp only [hd] at hok hsa
        have HO := Lib.hid hok
        have HB := Lib.hid (Q0.trans hf (fun k hk => .inr (by omega)))
        clear his hok hd
        cases is
        · go_wp2_with fail
          go_ret
          exact ⟨retB (by rw [HO.out]; simp), HB.out⟩
        · generalize onlyF x (partsOf x.kind) = y at hb hsa
          generalize plF p (partsOf x.kind) = q at hb hsa
          have ca0 : wr.cell? ⟨w.heap.size, 0, none⟩ = some (U8V x.kind) := by simpa using xb.cell 0
          have ca1 : wr.cell? ⟨w.heap.size, 1, none⟩ = some (I64 x.nm.1) := by simpa using xb.cell 1
          have ca2 : wr.cell? ⟨w.heap.size, 2, none⟩ = some (I64 x.nm.2) := by simpa using xb.cell 2
          have ca3 : wr.cell? ⟨w.heap.size, 3, none⟩ = some (I64 x.epoch) := by simpa using xb.cell 3
          have ca4 : wr.cell? ⟨w.heap.size, 4, none⟩ = some (.slice p.a x.acts.length p.ca) := by simpa using xb.cell 4
          have ca5 : wr.cell? ⟨w.heap.size, 5, none⟩ = some (.bool x.commit) := by simpa using xb.cell 5
          have ca6 : wr.cell? ⟨w.heap.size, 6, none⟩ = some (.slice p.r x.reads.length p.cr) := by simpa using xb.cell 6
          have ca7 : wr.cell? ⟨w.heap.size, 7, none⟩ = some (I64 x.scheme) := by simpa using xb.cell 7
          have ca8 : wr.cell? ⟨w.heap.size, 8, none⟩ = some (I64 x.stage) := by simpa using xb.cell 8
          have ca9 : wr.cell? ⟨w.heap.size, 9, none⟩ = some (I64 x.to) := by simpa using xb.cell 9
          have ca10 : wr.cell? ⟨w.heap.size, 10, none⟩ = some (StrV x.lo) := by simpa using xb.cell 10
          have ca11 : wr.cell? ⟨w.heap.size, 11, none⟩ = some (StrV x.hi) := by simpa using xb.cell 11
          have ca12 : wr.cell? ⟨w.heap.size, 12, none⟩ = some (.slice p.b x.bytes.length p.cb) := by simpa using xb.cell 12
          have cb0 : wr.cell? ⟨w1.heap.size, 0, none⟩ = some (U8V x.kind) := by simpa using hb.cell 0
          have cb1 : wr.cell? ⟨w1.heap.size, 1, none⟩ = some (I64 y.nm.1) := by simpa using hb.cell 1
          have cb2 : wr.cell? ⟨w1.heap.size, 2, none⟩ = some (I64 y.nm.2) := by simpa using hb.cell 2
          have cb3 : wr.cell? ⟨w1.heap.size, 3, none⟩ = some (I64 y.epoch) := by simpa using hb.cell 3
          have cb4 : wr.cell? ⟨w1.heap.size, 4, none⟩ = some (.slice q.a y.acts.length q.ca) := by simpa using hb.cell 4
          have cb5 : wr.cell? ⟨w1.heap.size, 5, none⟩ = some (.bool y.commit) := by simpa using hb.cell 5
          have cb6 : wr.cell? ⟨w1.heap.size, 6, none⟩ = some (.slice q.r y.reads.length q.cr) := by simpa using hb.cell 6
          have cb7 : wr.cell? ⟨w1.heap.size, 7, none⟩ = some (I64 y.scheme) := by simpa using hb.cell 7
          have cb8 : wr.cell? ⟨w1.heap.size, 8, none⟩ = some (I64 y.stage) := by simpa using hb.cell 8
          have cb9 : wr.cell? ⟨w1.heap.size, 9, none⟩ = some (I64 y.to) := by simpa using hb.cell 9
          have cb10 : wr.cell? ⟨w1.heap.size, 10, none⟩ = some (StrV y.lo) := by simpa using hb.cell 10
          have cb11 : wr.cell? ⟨w1.heap.size, 11, none⟩ = some (StrV y.hi) := by simpa using hb.cell 11
          have cb12 : wr.cell? ⟨w1.heap.size, 12, none⟩ = some (.slice q.b y.bytes.length q.cb) := by simpa using hb.cell 12
          go_wp2_with (first | (go_at_call 100; refine (hsa _ (Fr.refl _ _)).mono ?_; rintro e w3 ⟨rfl, q3⟩))
          go_ret
          exact ⟨retB (by rw [HO.out]; simp), HB.out.tr q3⟩
end Go.Proofs.YtkjnlhidnkbelaaGreatDoor
