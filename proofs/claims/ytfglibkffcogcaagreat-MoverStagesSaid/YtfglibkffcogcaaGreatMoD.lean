/- Movers: the program's mover: idle, ticks, where it works. -/
import Derived.Test.YtfglibkffcogcaaGreatMoC
namespace Go.Proofs.YtfglibkffcogcaaGreat
open Go Go.RowKit

def zAsk : AskT := ⟨0, 0, ⟨0, 0, 0, 0, [], [], []⟩⟩
set_option maxRecDepth 100000 in
theorem mknown_any (w : World) (I : Nat → Prop) (g : Nat) (s : Mv) (h : IsMv w I g s) : Calls Tryz.prog 23 #[.pointer (some ⟨g, 0, none⟩)] w fun e w' => e = .returned (.bool true) ∧ w = w' := by
  obtain ⟨a, Ao, co, x, Ab, cb, h1, _⟩ := h
  have c18 : w.cell? ⟨g, 18, none⟩ = some (.bool true) := by simpa using h1.cell 18
  clear h1
  go_enter Tryz.func23, Tryz.ntmps23
  go_wp2_with fail
  go_ret
  exact ⟨rfl, rfl⟩
set_option maxRecDepth 100000 in
theorem midle_any (w : World) (I : Nat → Prop) (g : Nat) (s : Mv) (h : IsMv w I g s) :
    Calls Tryz.prog 26 #[.pointer (some ⟨g, 0, none⟩)] w fun e w' => e = .returned (.tuple #[]) ∧ IsMv w' I g { s with line := none, since := 0 } ∧ Fr (· = g) w w' := by
  obtain ⟨a, Ao, co, x, Ab, cb, h1, h2, h3, h4, h5, h6, h7, h8, h9, h10⟩ := id h
  have c0 : w.cell? ⟨g, 0, none⟩ = some (.bool s.line.isSome) := by simpa using h1.cell 0
  have f0 := h1.frozen 0
  obtain ⟨W1, hW1⟩ : ∃ W1, W1 = w.setCell ⟨g, 0, none⟩ (.bool false) := ⟨_, rfl⟩
  have m1 : Blk W1 g 79 (mvA false a Ao co s.since s.next s.works.isSome x s.bytes Ab cb) := by rw [hW1]; exact h1.set_ 0 _
  have f1 : Fr (· = g) w W1 := by rw [hW1]; exact (Fr.refl (· = g) w).set1 _ _
  obtain ⟨W2, hW2⟩ : ∃ W2, W2 = W1.setCells g 1 (askA (U8V 0) zAsk none 0).toList := ⟨_, rfl⟩
  have m2 : Blk W2 g 79 (mvA false zAsk none 0 s.since s.next s.works.isSome x s.bytes Ab cb) := by rw [hW2]; exact m1.setCells 1 (askA (U8V 0) zAsk none 0).toList
  have f2 : Fr (· = g) w W2 := by rw [hW2]; exact f1.setCells _ _
  have c16 : W2.cell? ⟨g, 16, none⟩ = some (I64 s.since) := by simpa using m2.cell 16
  have f16 := m2.frozen 16
  have hth := m1.there 1 15 (by show 1 + 15 ≤ 29; omega)
  have hone := ask_one 0 zAsk none 0
  obtain ⟨W3, hW3⟩ : ∃ W3, W3 = W2.setCell ⟨g, 16, none⟩ (.int .i64 0) := ⟨_, rfl⟩
  have m3 : Blk W3 g 79 (mvA false zAsk none 0 0 s.next s.works.isSome x s.bytes Ab cb) := by rw [hW3]; exact m2.set_ 16 _
  have f3 : Fr (· = g) w W3 := by rw [hW3]; exact f2.set1 _ _
  have HW1 := Lib.hid hW1
  have HW2 := Lib.hid hW2
  have HW3 := Lib.hid hW3
  clear hW1 hW2 hW3
  go_enter Tryz.func26, Tryz.ntmps26
  go_wp2_with (rw [← HW1.out]; refine wpList_store_mid rfl 70 _ _ rfl g 1 (askA (U8V 0) zAsk none 0) rfl rfl hth ask_size hone ?_; rw [← HW2.out])
  rw [← HW3.out]
  go_end0
  exact ⟨rfl, ⟨zAsk, none, 0, x, Ab, cb, m3, fun b hb => (by cases hb), h3, h4, Sl.nil _ _ _, h6.fr f3 (fun k hk e => h9 (e ▸ hk)), by decide, h8, h9, fun k hk => Nat.lt_of_lt_of_le (h10 k hk) f3.size⟩, f3⟩
set_option maxRecDepth 100000 in
theorem mlinetick_any (w : World) (I : Nat → Prop) (g : Nat) (s : Mv) (h : IsMv w I g s) (hs : 0 ≤ s.since ∧ s.since ≤ 100) :
    Calls Tryz.prog 27 #[.pointer (some ⟨g, 0, none⟩)] w fun e w' => ∃ v, e = .returned v ∧ MvTo w I g (againM s) v w' := by
  obtain ⟨a, Ao, co, x, Ab, cb, h1, h2, h3, h4, h5, h6, h7, h8, h9, h10⟩ := id h
  have c0 : w.cell? ⟨g, 0, none⟩ = some (.bool s.line.isSome) := by simpa using h1.cell 0
  cases hl : s.line with
  | none =>
    have e : againM s = (s, []) := by unfold againM; rw [hl]
    rw [e]
    rw [hl] at c0
    simp only [Option.isSome_none] at c0
    go_enter Tryz.func27, Tryz.ntmps27
    go_wp2_with fail
    go_ret
    exact ⟨_, rfl, .inl ⟨rfl, rfl⟩, ⟨I, h, fun k hk => .inl hk⟩, Fr.refl _ _⟩
  | some b =>
    obtain rfl := (h2 b hl).symm
    have e : againM s = if s.since + 1 < 5 then ({ s with since := s.since + 1 }, []) else ({ s with since := 0 }, [b]) := by unfold againM; rw [hl]
    rw [e]
    rw [hl] at c0 h1
    simp only [Option.isSome_some] at c0 h1
    have c16 : w.cell? ⟨g, 16, none⟩ = some (I64 s.since) := by simpa using h1.cell 16
    have f16 := h1.frozen 16
    have hwr : wrap64 (s.since + 1) = s.since + 1 := by unfold wrap64; omega
    obtain ⟨W1, hW1⟩ : ∃ W1, W1 = w.setCell ⟨g, 16, none⟩ (.int .i64 (s.since + 1)) := ⟨_, rfl⟩
    have m1 : Blk W1 g 79 (mvA true b Ao co (s.since + 1) s.next s.works.isSome x s.bytes Ab cb) := by rw [hW1]; exact h1.set_ 16 _
    have f1 : Fr (· = g) w W1 := by rw [hW1]; exact (Fr.refl (· = g) w).set1 _ _
    have HW1 := Lib.hid hW1
    clear hW1
    have d16 : W1.cell? ⟨g, 16, none⟩ = some (I64 (s.since + 1)) := by simpa using m1.cell 16
    have e16 := m1.frozen 16
    have hnI : ∀ k, I k → ¬ k = g := fun k hk e => h9 (e ▸ hk)
    by_cases h5s : s.since + 1 < 5
    · rw [if_pos h5s]
      go_enter Tryz.func27, Tryz.ntmps27
      go_upto_region 4 with (fail)
      rw [← HW1.out]
      go_wp2_with fail
      go_ret
      exact ⟨_, rfl, .inl ⟨rfl, rfl⟩, ⟨I, ⟨b, Ao, co, x, Ab, cb, by rw [hl]; exact m1, fun c hc => h2 c hc, h3, h4, h5.fr f1 hnI, h6.fr f1 hnI, h7, h8, h9, fun k hk => Nat.lt_of_lt_of_le (h10 k hk) f1.size⟩, fun k hk => .inl hk⟩, f1⟩
    · rw [if_neg h5s]
      obtain ⟨W2, hW2⟩ : ∃ W2, W2 = W1.setCell ⟨g, 16, none⟩ (.int .i64 0) := ⟨_, rfl⟩
      have m2 : Blk W2 g 79 (mvA true b Ao co 0 s.next s.works.isSome x s.bytes Ab cb) := by rw [hW2]; exact m1.set_ 16 _
      have f2 : Fr (· = g) w W2 := by rw [hW2]; exact f1.set1 _ _
      have HW2 := Lib.hid hW2
      clear hW2
      have htd := told_any W2 I g b Ao co (m2.cells_in 1 15) (h5.fr f2 hnI) h7
      go_enter Tryz.func27, Tryz.ntmps27
      go_upto_region 4 with (fail)
      rw [← HW1.out]
      go_upto_region 7 with (fail)
      rw [← HW2.out]
      go_wp2_with fail
      refine htd.mono ?_
      rintro e w3 ⟨v, rfl, hv, q3⟩
      go_wp2_with fail
      go_ret
      have f3 := f2.tr (Nw.on q3)
      exact ⟨_, rfl, hv.back f2.size, ⟨I, ⟨b, Ao, co, x, Ab, cb, by rw [hl]; exact m2.fr q3 (fun h => h), fun c hc => h2 c hc, h3, h4, h5.fr f3 hnI, h6.fr f3 hnI, h7, h8, h9, fun k hk => Nat.lt_of_lt_of_le (h10 k hk) f3.size⟩, fun k hk => .inl hk⟩, f3⟩
set_option maxRecDepth 100000 in
theorem mworks_any (w : World) (I : Nat → Prop) (g : Nat) (s : Mv) (h : IsMv w I g s) :
    Calls Tryz.prog 18 #[.pointer (some ⟨g, 0, none⟩)] w fun e w' => e = .returned (.tuple #[.int .i64 (worksN s).1, .int .u8 (worksN s).2]) ∧ Nw w w' := by
  have hkn := mknown_any w I g s h
  obtain ⟨a, Ao, co, x, Ab, cb, h1, h2, h3, h4, _⟩ := id h
  have c19 : w.cell? ⟨g, 19, none⟩ = some (.bool s.works.isSome) := by simpa using h1.cell 19
  have c20 : w.cell? ⟨g, 20, none⟩ = some (I64 x.num) := by simpa using h1.cell 20
  have c27 : w.cell? ⟨g, 27, none⟩ = some (U8V x.stage) := by simpa using h1.cell 27
  cases hw : s.works with
  | none =>
    have e : worksN s = (0, 0) := by unfold worksN; rw [hw]
    rw [e]
    rw [hw] at c19
    simp only [Option.isSome_none] at c19
    clear h1
    go_enter Tryz.func18, Tryz.ntmps18
    go_wp2_with fail
    refine hkn.mono ?_
    rintro e w' ⟨rfl, rfl⟩
    go_wp2_with fail
    go_ret2
    exact ⟨rfl, Fr.refl _ _⟩
  | some y =>
    obtain rfl := (h3 y hw).symm
    have e : worksN s = (y.num, y.stage) := by unfold worksN; rw [hw]
    rw [e]
    rw [hw] at c19
    simp only [Option.isSome_some] at c19
    clear h1
    go_enter Tryz.func18, Tryz.ntmps18
    go_wp2_with fail
    refine hkn.mono ?_
    rintro e w' ⟨rfl, rfl⟩
    go_wp2_with fail
    go_quiet (fail)
    go_wp2_with fail
    go_ret2
    exact ⟨rfl, (Fr.refl (fun _ => False) w).drewN _⟩
end Go.Proofs.YtfglibkffcogcaaGreat
