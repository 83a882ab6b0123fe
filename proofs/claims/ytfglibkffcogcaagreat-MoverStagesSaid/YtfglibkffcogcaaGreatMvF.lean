/- Movers: the law's example. -/
import Derived.Test.YtfglibkffcogcaaGreatMvE
import Derived.Test.YtfglibkffcogcaaGreatMvP
namespace Go.Proofs.YtfglibkffcogcaaGreat
open Go Go.RowKit

theorem ex1 : tickM (newM 7) (hand 1) true = (⟨some ⟨8, 1, freezeO (hand 1)⟩, 0, 9, some (hand 1), []⟩, [⟨8, 1, freezeO (hand 1)⟩]) := by rfl
theorem ex2 : answerM ⟨some ⟨8, 1, freezeO (hand 1)⟩, 0, 9, some (hand 1), []⟩ 8 0 [5] = (⟨some ⟨9, 0, stepO 1 2⟩, 0, 10, some (hand 1), [5]⟩, [⟨9, 0, stepO 1 2⟩]) := by rfl
theorem ex3 : tickM ⟨some ⟨9, 0, stepO 1 2⟩, 0, 10, some (hand 1), [5]⟩ (hand 2) true = (⟨some ⟨10, 2, absorbO (hand 2) [5]⟩, 0, 11, some (hand 2), [5]⟩, [⟨10, 2, absorbO (hand 2) [5]⟩]) := by rfl
theorem told_one {w0 w : World} {a : AskT} {v : Value} (h : ToldV w0 70 U8V [a] v w) :
    ∃ g A c, v = .slice (some ⟨g, 0, none⟩) 1 1 ∧ Blk w g 70 (askA (U8V a.ord.kind) a A c) ∧ Own w 5 1 A a.ord.bytes.length c (a.ord.bytes.map B8) ∧ w0.heap.size ≤ g ∧ ∀ k, inA A k → w0.heap.size ≤ k := by
  rcases h with ⟨h, _⟩ | ⟨a', g, A, c, h, rfl, h1, h2, h3, h4⟩
  · cases h
  · injection h with h
    subst h
    exact ⟨g, A, c, rfl, h1, h2, h3, h4⟩
theorem IsMv.lt {w : World} {I : Nat → Prop} {g : Nat} {s : Mv} (h : IsMv w I g s) : g < w.heap.size := by
  obtain ⟨_, _, _, _, _, _, h1, _⟩ := h
  exact h1.lt
theorem IsRMv.lt {w : World} {I : Nat → Prop} {g : Nat} {s : Mv} (h : IsRMv w I g s) : g < w.heap.size := by
  obtain ⟨_, _, _, _, _, _, _, h1, _⟩ := h
  exact h1.lt
set_option maxRecDepth 100000 in
set_option maxHeartbeats 4000000 in
theorem awake_any (w : World) : Calls Tryz.prog 6 #[] w fun e w' => e = .returned (.bool true) ∧ Nw w w' := by
  go_enter Tryz.func6, Tryz.ntmps6
  go_wp2_with fail
  refine (mnew_any w 7 (by omega)).mono ?_
  rintro e w1 ⟨rfl, m1, q1⟩
  obtain ⟨g, hg⟩ : ∃ g, g = w.heap.size := ⟨_, rfl⟩
  rw [← hg] at m1 ⊢
  have hgl : w.heap.size ≤ g := by omega
  have HG := Lib.hid hg
  clear hg
  go_wp2_with fail
  refine (handoff_any w1 1 (by omega)).mono ?_
  rintro e w2 ⟨rfl, q2⟩
  have hc := mtick_any w2 (fun _ => False) g (newM 7) (hand 1) true (m1.fr q2 (fun h => h) (fun _ _ h => h)) (by decide) (by decide) (by decide) (by decide) (by decide)
  rw [ex1] at hc
  go_wp2_with fail
  refine hc.mono ?_
  rintro e w3 ⟨v, rfl, hv, ⟨I3, m3, hI3⟩, f3⟩
  obtain ⟨gA, A, c, rfl, hB, _, hgA, _⟩ := told_one hv
  have q3 : Nw w w3 := (q1.tr q2).new f3 (fun b hb => by omega)
  have a0 : w3.cell? ⟨gA, 0, none⟩ = some (.int .i64 8) := hB.cell 0
  have a1 : w3.cell? ⟨gA, 1, none⟩ = some (.int .i64 1) := hB.cell 1
  have a2 : w3.cell? ⟨gA, 2, none⟩ = some (.int .u8 3) := hB.cell 2
  clear hc hv
  go_upto_region 5 with (fail)
  obtain ⟨W4, hW4⟩ : ∃ W4, W4 = w3.alloc (.cells #[.int .u8 5] 5) := ⟨_, rfl⟩
  have q4 : Nw w3 W4 := by rw [hW4]; exact (Fr.refl (fun _ => False) w3).alloc _
  have s4 : Sl W4 (· = w3.heap.size) (some ⟨w3.heap.size, 0, none⟩) ([5].map B8) := by rw [hW4]; exact sl_new w3 5 [.int .u8 5] _ rfl
  have hc := manswer_any W4 I3 (· = w3.heap.size) g _ 8 (m3.fr q4 (fun h => h) (fun _ _ h => h)) (by have h := (inv_tick (inv_new 7 (by omega)) (hand 1) true).1.ok; rw [ex1] at h; exact h) (by decide) ⟨0, 0, 0, false, false, none, 0, 0, 0, 0, [5]⟩ (some ⟨w3.heap.size, 0, none⟩) 1 s4 (by decide)
  have HW4 := Lib.hid hW4
  clear hW4
  rw [ex2] at hc
  go_wp2_with fail
  rw [← HW4.out]
  refine hc.mono ?_
  rintro e w5 ⟨v, rfl, hv, ⟨I5, m5, hI5⟩, f5⟩
  obtain ⟨gB, B, cB, rfl, hBB, oB, hgB, hinB⟩ := told_one hv
  have f35 : Fr (· = g) w3 w5 := (Nw.on q4).tr f5
  have q5 : Nw w w5 := q3.new f35 (fun b hb => by omega)
  clear hc hv
  go_wp2_with fail
  refine (handoff_any w5 2 (by omega)).mono ?_
  rintro e w6 ⟨rfl, q6⟩
  have hc := mtick_any w6 I5 g _ (hand 2) true (m5.fr q6 (fun h => h) (fun _ _ h => h)) (by decide) (by decide) (by decide) (by decide) (by decide)
  rw [ex3] at hc
  go_wp2_with fail
  refine hc.mono ?_
  rintro e w7 ⟨v, rfl, hv, _, f7⟩
  obtain ⟨gC, C, cC, rfl, hBC, oC, hgC, hinC⟩ := told_one hv
  have f57 : Fr (· = g) w5 w7 := (Nw.on q6).tr f7
  have hB7 := hBB.fr f57 (by have := m3.lt; have := q4.size; omega)
  have q7 : Nw w w7 := q5.new f57 (fun b hb => by omega)
  clear hc hv
  have b1 : w7.cell? ⟨gB, 1, none⟩ = some (.int .i64 0) := hB7.cell 1
  have b2 : w7.cell? ⟨gB, 2, none⟩ = some (.int .u8 12) := hB7.cell 2
  have b10 : w7.cell? ⟨gB, 10, none⟩ = some (.int .i64 2) := hB7.cell 10
  have c1 : w7.cell? ⟨gC, 1, none⟩ = some (.int .i64 2) := hBC.cell 1
  have c2 : w7.cell? ⟨gC, 2, none⟩ = some (.int .u8 5) := hBC.cell 2
  have c14 : w7.cell? ⟨gC, 14, none⟩ = some (.slice C 1 cC) := hBC.cell 14
  obtain ⟨W8, hW8⟩ : ∃ W8, W8 = w7.alloc (.cells #[.int .u8 5] 5) := ⟨_, rfl⟩
  have q8 : Nw w7 W8 := by rw [hW8]; exact (Fr.refl (fun _ => False) w7).alloc _
  have s8 : Sl W8 (· = w7.heap.size) (some ⟨w7.heap.size, 0, none⟩) ([5].map B8) := by rw [hW8]; exact sl_new w7 5 [.int .u8 5] _ rfl
  have sb := same_u8 W8 (inA C) (· = w7.heap.size) C (some ⟨w7.heap.size, 0, none⟩) cC 1 [5] [5] (oC.sl.fr q8 (fun _ _ h => h)) s8 (by decide)
  rw [decide_eq_true rfl] at sb
  have HW8 := Lib.hid hW8
  clear hW8
  go_wp2_with fail
  rw [← HW8.out]
  refine sb.mono ?_
  rintro e w9 ⟨rfl, q9⟩
  go_wp2_with fail
  go_ret
  exact ⟨rfl, (q7.tr q8).tr (q9.fr _)⟩
end Go.Proofs.YtfglibkffcogcaaGreat
