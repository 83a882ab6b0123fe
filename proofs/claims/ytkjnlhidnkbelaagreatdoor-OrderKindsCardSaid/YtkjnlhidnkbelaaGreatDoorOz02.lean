/- Lemmas of the walks: Gr2. (Laid together by shake.py.) -/
import Derived.Test.YtkjnlhidnkbelaaGreatDoorProg
import Derived.Deep.QuietTactic
import Derived.BigQuiet
import Derived.Laws.Tables
import Derived.Laws.Rows
import Derived.Deep.RegionHeld3
import Derived.Test.YtkjnlhidnkbelaaGreatDoorOz01
set_option linter.unusedVariables false
set_option linter.unusedSimpArgs false
/- The program's writer: what its inner functions do. -/
namespace Go.Proofs.YtkjnlhidnkbelaaGreatDoor
open Go Go.RowKit

theorem info_u8 : (Tryz.prog.info? 5).map (fun i => (i.zero, i.size, i.bytes)) = some (some (.int .u8 0), 1, 1) := by kernel_rfl

theorem size_bytes (w : World) : (sizeOf (Tryz.prog.elem 22)).run Tryz.prog w = .ok 1 w := by kernel_rfl

theorem under_bytes : Tryz.prog.underlying 22 = some (.slice (Tryz.prog.elem 22)) := by kernel_rfl

/-- Block g is a writer that has written so. -/
def IsWr (w : World) (F : Nat → Prop) (g : Nat) (s : Wr) : Prop :=
  ∃ A cap, Blk w g 164 #[.bool true, .bool (!s.ok), .slice A s.bs.length cap] ∧ Own w 5 1 A s.bs.length cap (s.bs.map B8) ∧ F g ∧ (∀ k, inA A k → F k) ∧ ∀ k, F k → k < w.heap.size

/-- What a step of a writer leaves. -/
def WrTo (w : World) (F : Nat → Prop) (g : Nat) (s : Wr) (w' : World) : Prop :=
  ∃ F', IsWr w' F' g s ∧ Fr F w w' ∧ ∀ k, F' k → F k ∨ w.heap.size ≤ k

theorem IsWr.fr {w w' : World} {F S : Nat → Prop} {g : Nat} {s : Wr} (h : IsWr w F g s) (hf : Fr S w w') (hd : ∀ k, F k → ¬ S k) : IsWr w' F g s := by
  obtain ⟨A, cap, hb, hown, hF, hFA, hlt⟩ := h
  exact ⟨A, cap, hb.fr hf (hd _ hF), hown.fr hf (fun k hk => hd k (hFA k hk)), hF, hFA, fun k hk => Nat.lt_of_lt_of_le (hlt k hk) hf.size⟩
theorem IsWr.alloc {w : World} {F : Nat → Prop} {g : Nat} {s : Wr} (h : IsWr w F g s) (o : Obj) : IsWr (w.alloc o) F g s :=
  h.fr (S := fun _ => False) ((Fr.refl _ w).alloc o) (fun _ _ h => h)
theorem IsWr.bound {w : World} {F : Nat → Prop} {g : Nat} {s : Wr} (h : IsWr w F g s) : ∀ k, F k → k < w.heap.size := by
  obtain ⟨_, _, _, _, _, _, h⟩ := h
  exact h
theorem WrTo.alloc {w w2 : World} {F : Nat → Prop} {g : Nat} {s2 : Wr} {o : Obj} (h : WrTo (w.alloc o) F g s2 w2) : WrTo w F g s2 w2 := by
  obtain ⟨F2, h1, h2, h3⟩ := h
  exact ⟨F2, h1, ((Fr.refl F w).alloc o).tr h2, fun k hk => (h3 k hk).imp id fun h => by simp at h; omega⟩

theorem put_any (w : World) (F F2 : Nat → Prop) (g : Nat) (s : Wr) (h : IsWr w F g s) (A2 : Option Addr) (m c : Nat) (bs : List UInt8) (hm : bs.length = m) (hsl : Sl w F2 A2 (bs.map B8))
    (hsz : s.bs.length + m ≤ 1000000000000) :
    Calls Tryz.prog 96 #[.pointer (some ⟨g, 0, none⟩), .slice A2 m c] w fun e w' => e = .returned (.tuple #[]) ∧ WrTo w F g { s with bs := s.bs ++ bs } w' := by
  obtain ⟨A, cap, hb, hown, hF, hFA, hFlt⟩ := h
  subst hm
  have c0 := hb.cell 0
  have c2 := hb.cell 2
  simp at c0 c2
  go_enter Tryz.func96, Tryz.ntmps96
  go_wp2_with (at_builtin; refine wl_append rfl _ _ _ rfl 1 (.int .u8 0) Tryz.underlying22 info_u8 rfl (by decide) rfl hown rfl hsl (by simp) (B8_oneCell bs) (by omega) (by unfold maxLen; omega) ?_; intro A' cap' w1 ho hf hin; have hb1 := hb.fr hf (fun hg => hown.ne_ hb (by decide) hg); have c21 := hb1.cell 2; have f21 := hb1.frozen 2; simp at c21)
  go_end0
  refine ⟨rfl, fun k => k = g ∨ inA A' k, ⟨A', cap', ?_, ?_, .inl rfl, fun k hk => .inr hk, ?_⟩, (hf.mono fun b hb' => .inl (hFA b hb')).setCell (.inl hF) _, ?_⟩
  · have := hb1.set_ 2 (.slice A' (s.bs.length + bs.length) cap')
    simpa using this
  · have := ho.setCell (p := ⟨g, 2, none⟩) (fun hk => ho.ne_ hb1 (by decide) hk) (.slice A' (s.bs.length + bs.length) cap')
    simpa using this
  · have hz : (w1.setCell ⟨g, 2, none⟩ (.slice A' (s.bs.length + bs.length) cap')).heap.size = w1.heap.size := by simp [World.setCell]
    rw [hz]
    rintro k (rfl | hk)
    · exact hb1.lt
    · exact ho.lt k hk
  · rintro k (rfl | hk)
    · exact .inl hF
    · rcases hin k hk with h | h
      · exact .inl (hFA k h)
      · exact .inr (by omega)

theorem WrTo.trans {w w1 w2 : World} {F F1 : Nat → Prop} {g : Nat} {s2 : Wr} (hf : Fr F w w1) (hn : ∀ k, F1 k → F k ∨ w.heap.size ≤ k) (h : WrTo w1 F1 g s2 w2) : WrTo w F g s2 w2 := by
  obtain ⟨F2, h1, h2, h3⟩ := h
  refine ⟨F2, h1, hf.trans h2 hn, fun k hk => ?_⟩
  rcases h3 k hk with h | h
  · exact hn k h
  · exact .inr (Nat.le_trans hf.size h)

theorem number_bad (w : World) (F : Nat → Prop) (g : Nat) (s : Wr) (h : IsWr w F g s) (n : Int) (hn : n < 0 ∨ 4611686018427387903 < n) :
    Calls Tryz.prog 95 #[.pointer (some ⟨g, 0, none⟩), .int .i64 n] w fun e w' => e = .returned (.tuple #[]) ∧ WrTo w F g { s with ok := false } w' := by
  obtain ⟨A, cap, hb, hown, hF, hFA, hFlt⟩ := h
  have c1 := hb.cell 1
  have f1 := hb.frozen 1
  simp at c1
  have hfin : WrTo w F g { s with ok := false } (w.setCell ⟨g, 1, none⟩ (.bool true)) := by
    refine ⟨fun k => k = g ∨ inA A k, ⟨A, cap, ?_, hown.setCell (p := ⟨g, 1, none⟩) (fun hk => hown.ne_ hb (by decide) hk) _, .inl rfl, fun k hk => .inr hk, ?_⟩, (Fr.refl F w).setCell (.inl hF) _, ?_⟩
    · have := hb.set_ 1 (.bool true)
      simpa using this
    · have hz : (w.setCell ⟨g, 1, none⟩ (.bool true)).heap.size = w.heap.size := by simp [World.setCell]
      rw [hz]
      rintro k (rfl | hk)
      · exact hb.lt
      · exact hown.lt k hk
    · rintro k (rfl | hk)
      · exact .inl hF
      · exact .inl (hFA k hk)
  by_cases h0 : n < 0
  · go_enter Tryz.func95, Tryz.ntmps95
    go_wp2_with fail
    refine bodyPost_ret (results_none rfl _ _ _) rfl ?_
    exact ⟨rfl, hfin⟩
  · have h1 : 4611686018427387903 < n := by omega
    go_enter Tryz.func95, Tryz.ntmps95
    go_wp2_with fail
    refine bodyPost_ret (results_none rfl _ _ _) rfl ?_
    exact ⟨rfl, hfin⟩

/-- The writer's state behind some rounds of a number. -/
def NumRel (w : World) (F : Nat → Prop) (g : Nat) (s : Wr) (n : Nat) (v : Value) (wr : World) : Prop :=
  ∃ (k : Nat) (F' : Nat → Prop) (bs : List UInt8), v = .int .i64 k ∧ k ≤ topN ∧ bs.length + (enc k).length = s.bs.length + (enc n).length ∧ IsWr wr F' g { s with bs := bs } ∧ Fr F w wr ∧ (∀ k, F' k → F k ∨ w.heap.size ≤ k) ∧ bs ++ enc k = s.bs ++ enc n

theorem number_ok (w : World) (F : Nat → Prop) (g : Nat) (s : Wr) (h : IsWr w F g s) (n : Nat) (hn : n ≤ 4611686018427387903) (hsz : s.bs.length ≤ 900000000000) :
    Calls Tryz.prog 95 #[.pointer (some ⟨g, 0, none⟩), .int .i64 n] w fun e w' => e = .returned (.tuple #[]) ∧ WrTo w F g { s with bs := s.bs ++ enc n } w' := by
  go_enter Tryz.func95, Tryz.ntmps95
  go_wp2_with fail
  go_loopw [1] (fun v wr => NumRel w F g s n v wr) (fun v _ => (intOf v).toNat)
  case atStart => exact ⟨n, F, s.bs, rfl, hn, rfl, h, Fr.refl _ _, fun k hk => .inl hk, rfl⟩
  case round =>
    obtain ⟨k, F', bs, rfl, hk, hl, hw, hf, hF, he⟩ := hrel
    by_cases hb : 127 < k
    · have HE := Lib.hid (enc_big k (by omega) hk)
      have HL := Lib.hid hl
      have HC := Lib.hid he
      clear hl he
      have hk' := hk
      unfold topN at hk'
      go_wp2_with fail
      rw [orByte k]
      refine (put_any _ F' _ g _ (hw.alloc _) _ 1 1 [UInt8.ofNat (k % 128 + 128)] rfl ((Blk.new _ _ _).sl 0 1) ?_).mono ?_
      · show bs.length + 1 ≤ _
        have := HL.out; have := enc_len n; omega
      rintro e w2 ⟨rfl, h2⟩
      obtain ⟨F2, i2, f2, n2⟩ := h2.alloc
      go_wp2_with fail
      go_roundw
      case rel =>
        refine ⟨k / 128, F2, bs ++ [UInt8.ofNat (k % 128 + 128)], by go_num, by unfold topN; omega, ?_, i2, hf.trans f2 hF, fun j hj => ?_, ?_⟩
        · have h1 := HL.out
          rw [HE.out] at h1
          simp at h1 ⊢
          omega
        · rcases n2 j hj with h | h
          · exact hF j h
          · exact .inr (Nat.le_trans hf.size h)
        · have h1 := HC.out
          rw [HE.out] at h1
          rw [← h1]
          simp
      case measure => simp [intOf]; omega
    · have hk' := hk
      unfold topN at hk'
      have HL := Lib.hid hl
      have HC := Lib.hid he
      clear hl he
      go_wp2_with fail
      have hv : Value.int IntKind.u8 (k : Int) = B8 (UInt8.ofNat k) := by
        unfold B8; congr 1; rw [← lowByte k (by omega)]; omega
      rw [hv]
      refine (put_any _ F' _ g _ (hw.alloc _) _ 1 1 [UInt8.ofNat k] rfl ((Blk.new _ _ _).sl 0 1) ?_).mono ?_
      · show bs.length + 1 ≤ _
        have := HL.out; have := enc_len n; omega
      rintro e w2 ⟨rfl, h2⟩
      clear hv
      go_wp2_with fail
      go_end0
      refine ⟨rfl, ?_⟩
      have h1 := HC.out
      rw [enc_small k (by omega)] at h1
      rw [← h1]
      exact (h2.alloc).trans hf hF
end Go.Proofs.YtkjnlhidnkbelaaGreatDoor
/- Reads and verdicts in memory; a list of them; a book of the program's, and of the document's. -/
namespace Go.Proofs.YtkjnlhidnkbelaaGreatDoor
open Go Go.RowKit
set_option linter.unusedVariables false
set_option linter.unusedSimpArgs false

theorem info_read : (Tryz.prog.info? 93).map (fun i => (i.zero, i.size, i.bytes)) = some (some (.agg #[.string ⟨#[]⟩, .bool false, .string ⟨#[]⟩]), 3, 40) := by kernel_rfl
/-- A text as a value. -/
abbrev StrV (s : List UInt8) : Value := .string ⟨s.toArray⟩
def rdgCells (r : Rdg) : List Value := [StrV r.1, .bool r.2.1, StrV r.2.2]
def rdgsCells (l : List Rdg) : List Value := (l.map rdgCells).flatten
theorem rdgsCells_cons (r : Rdg) (l : List Rdg) : rdgsCells (r :: l) = rdgCells r ++ rdgsCells l := rfl
theorem rdgsCells_append (a b : List Rdg) : rdgsCells (a ++ b) = rdgsCells a ++ rdgsCells b := by simp [rdgsCells]
theorem rdgsCells_len (l : List Rdg) : (rdgsCells l).length = l.length * 3 := by
  induction l with
  | nil => rfl
  | cons r l ih => rw [rdgsCells_cons, List.length_append, ih]; simp [rdgCells]; omega
theorem rdgsCells_one (l : List Rdg) : ∀ u ∈ rdgsCells l, u.oneCell' = true := by
  intro u hu
  obtain ⟨x, hx, hu⟩ := List.mem_flatten.1 hu
  obtain ⟨r, _, rfl⟩ := List.mem_map.1 hx
  simp [rdgCells] at hu
  rcases hu with rfl | rfl | rfl <;> rfl
theorem rdgsCells_at (l : List Rdg) (k : Nat) (h : k < l.length) (j : Nat) (hj : j < 3) : (rdgsCells l)[k * 3 + j]? = (rdgCells l[k])[j]? := by
  induction l generalizing k with
  | nil => simp at h
  | cons r l ih =>
    rw [rdgsCells_cons]
    cases k with
    | zero => rw [List.getElem?_append_left (by simp [rdgCells]; omega)]; simp
    | succ k =>
      rw [List.getElem?_append_right (by simp [rdgCells]; omega)]
      have := ih k (by simpa using h)
      rw [List.getElem_cons_succ, ← this]
      congr 1
      simp [rdgCells]
      omega
/-- A verdict's five cells. -/
def VerC (w : World) (F : Nat → Prop) (v : Ver) (cs : List Value) : Prop :=
  ∃ A c, cs = [I64 v.1.1, I64 v.1.2, .bool v.2.1, I64 v.2.2.1, .slice A v.2.2.2.length c] ∧ v.2.2.2.length ≤ c ∧ c ≤ maxLen ∧ Sl w F A (rdgsCells v.2.2.2)
/-- Verdicts' cells. -/
def VersC (w : World) (F : Nat → Prop) (l : List Ver) (cs : List Value) : Prop :=
  cs.length = l.length * 5 ∧ ∀ k (h : k < l.length), VerC w F l[k] ((cs.drop (k * 5)).take 5)
section
variable {w w' : World} {F F' S : Nat → Prop} {v : Ver} {l : List Ver} {cs : List Value}
theorem VerC.fr (h : VerC w F v cs) (hf : Fr S w w') (hn : ∀ b, F b → ¬ S b) : VerC w' F v cs := by
  obtain ⟨A, c, e, h1, h2, h3⟩ := h
  exact ⟨A, c, e, h1, h2, h3.fr hf hn⟩
theorem VerC.len (h : VerC w F v cs) : cs.length = 5 := by
  obtain ⟨A, c, rfl, _⟩ := h
  rfl
theorem VersC.fr (h : VersC w F l cs) (hf : Fr S w w') (hn : ∀ b, F b → ¬ S b) : VersC w' F l cs := ⟨h.1, fun k hk => (h.2 k hk).fr hf hn⟩
theorem VersC.nil (w : World) (F : Nat → Prop) : VersC w F [] [] := ⟨rfl, fun k hk => absurd hk (Nat.not_lt_zero _)⟩
theorem VersC.snoc {c5 : List Value} (h : VersC w F l cs) (hv : VerC w F v c5) : VersC w F (l ++ [v]) (cs ++ c5) := by
  refine ⟨by rw [List.length_append, h.1, hv.len, List.length_append]; simp; omega, fun k hk => ?_⟩
  rw [List.length_append, List.length_singleton] at hk
  rcases Nat.lt_or_ge k l.length with h1 | h1
  · rw [List.getElem_append_left h1, List.drop_append, List.take_append]
    have e1 : k * 5 - cs.length = 0 := by rw [h.1]; omega
    have e2 : (cs.drop (k * 5)).length = cs.length - k * 5 := List.length_drop
    have e3 : 5 - (cs.drop (k * 5)).length = 0 := by rw [e2, h.1]; omega
    rw [e3, List.take_zero, List.append_nil]
    exact h.2 k h1
  · have : k = l.length := by omega
    subst this
    rw [List.getElem_append_right (Nat.le_refl _), List.drop_append]
    have e1 : cs.drop (l.length * 5) = [] := List.drop_eq_nil_of_le (by rw [h.1]; omega)
    have e2 : l.length * 5 - cs.length = 0 := by rw [h.1]; omega
    rw [e1, e2, List.nil_append, List.drop_zero, List.take_of_length_le (by rw [hv.len]; omega)]
    simpa using hv
theorem drop5 (cs : List Value) (k : Nat) (j : Nat) (hj : j < 5) : cs[k * 5 + j]? = ((cs.drop (k * 5)).take 5)[j]? := by
  rw [List.getElem?_take, if_pos hj, List.getElem?_drop]
end

end Go.Proofs.YtkjnlhidnkbelaaGreatDoor
/- Rulings: names, keys, reads told right or not, by the program and by the document. -/
namespace Go.Proofs.YtkjnlhidnkbelaaGreatDoor
open Go Go.RowKit

theorem decOk (x : Nm) (B : Bool) (h : B = decide (nmOk x)) : Ending.returned (.bool B) = Ending.returned (.bool (decide (nmOk x))) := by rw [h]
theorem actName_any (w : World) (x : Nm) : Calls Tryz.prog 50 #[nmKey x] w fun e w' => e = .returned (.bool (decide (nmOk x))) ∧ Nw w w' := by
  obtain ⟨a, b⟩ := x
  by_cases h1 : 1 ≤ a
  · by_cases h2 : a ≤ 8
    · by_cases h3 : 1 ≤ b
      · by_cases h4 : b ≤ 1073741824
        · go_enter Tryz.func50, Tryz.ntmps50
          go_wp2_with fail
          go_ret
          exact ⟨decOk _ _ (decide_eq_true ⟨h1, h2, h3, h4⟩).symm, (Fr.refl _ w).alloc _⟩
        · go_enter Tryz.func50, Tryz.ntmps50
          go_wp2_with fail
          go_ret
          exact ⟨decOk _ _ (decide_eq_false (by unfold nmOk; simp only; omega)).symm, (Fr.refl _ w).alloc _⟩
      · go_enter Tryz.func50, Tryz.ntmps50
        go_wp2_with fail
        go_ret
        exact ⟨decOk _ _ (decide_eq_false (by unfold nmOk; simp only; omega)).symm, (Fr.refl _ w).alloc _⟩
    · go_enter Tryz.func50, Tryz.ntmps50
      go_wp2_with fail
      go_ret
      exact ⟨decOk _ _ (decide_eq_false (by unfold nmOk; simp only; omega)).symm, (Fr.refl _ w).alloc _⟩
  · go_enter Tryz.func50, Tryz.ntmps50
    go_wp2_with fail
    go_ret
    exact ⟨decOk _ _ (decide_eq_false (by unfold nmOk; simp only; omega)).symm, (Fr.refl _ w).alloc _⟩
theorem refName_any (w : World) (x : Nm) : Calls Tryz.prog 86 #[nmKey x] w fun e w' => e = .returned (.bool (decide (nmOk x))) ∧ Nw w w' := by
  obtain ⟨a, b⟩ := x
  by_cases h1 : 1 ≤ a
  · by_cases h2 : a ≤ 8
    · by_cases h3 : 1 ≤ b
      · by_cases h4 : b ≤ 1073741824
        · go_enter Tryz.func86, Tryz.ntmps86
          go_wp2_with fail
          go_ret
          exact ⟨decOk _ _ (decide_eq_true ⟨h1, h2, h3, h4⟩).symm, (Fr.refl _ w).alloc _⟩
        · go_enter Tryz.func86, Tryz.ntmps86
          go_wp2_with fail
          go_ret
          exact ⟨decOk _ _ (decide_eq_false (by unfold nmOk; simp only; omega)).symm, (Fr.refl _ w).alloc _⟩
      · go_enter Tryz.func86, Tryz.ntmps86
        go_wp2_with fail
        go_ret
        exact ⟨decOk _ _ (decide_eq_false (by unfold nmOk; simp only; omega)).symm, (Fr.refl _ w).alloc _⟩
    · go_enter Tryz.func86, Tryz.ntmps86
      go_wp2_with fail
      go_ret
      exact ⟨decOk _ _ (decide_eq_false (by unfold nmOk; simp only; omega)).symm, (Fr.refl _ w).alloc _⟩
  · go_enter Tryz.func86, Tryz.ntmps86
    go_wp2_with fail
    go_ret
    exact ⟨decOk _ _ (decide_eq_false (by unfold nmOk; simp only; omega)).symm, (Fr.refl _ w).alloc _⟩

theorem str_size (l : List UInt8) : (⟨l.toArray⟩ : ByteArray).size = l.length := by simp [ByteArray.size]
theorem str_index (w : World) (l : List UInt8) (k : Nat) (h : k < l.length) : (Instr.index 9 (StrV l) (.int .i64 (k : Int))).run Tryz.prog w = .ok (.int .u8 (l[k].toNat : Int)) w := by
  rw [run_index_string w 9 _ .i64 k Tryz.underlying9, dif_pos ⟨by omega, by rw [str_size]; omega⟩]
  simp [ByteArray.getElem_eq_getElem_data]
theorem str_nil (l : List UInt8) : (⟨l.toArray⟩ : ByteArray).toList.isEmpty = decide (l = []) := by
  rw [ByteArray.toList_mk]
  cases l <;> rfl
/-- All letters before the k-th are letters of a key. -/
def KeyTo (l : List UInt8) (w : World) (i : Value) (wx : World) : Prop := ∃ k : Nat, k ≤ l.length ∧ i = .int .i64 k ∧ (∀ j (h : j < l.length), j < k → keyCh l[j] = true) ∧ wx = w
theorem keyCh_yes {b : UInt8} (h : (97 ≤ b.toNat ∧ b.toNat ≤ 122) ∨ (48 ≤ b.toNat ∧ b.toNat ≤ 57)) : keyCh b = true := by
  unfold keyCh
  simp only [Bool.or_eq_true, Bool.and_eq_true, decide_eq_true_eq]
  exact h
theorem keyCh_no {b : UInt8} (h : ¬ ((97 ≤ b.toNat ∧ b.toNat ≤ 122) ∨ (48 ≤ b.toNat ∧ b.toNat ≤ 57))) : keyCh b = false := by
  cases hk : keyCh b with
  | false => rfl
  | true =>
    unfold keyCh at hk
    simp only [Bool.or_eq_true, Bool.and_eq_true, decide_eq_true_eq] at hk
    exact (h hk).elim
theorem keyOk_no {l : List UInt8} (k : Nat) (h : k < l.length) (hk : keyCh l[k] = false) : keyOk l = false := by
  cases ho : keyOk l with
  | false => rfl
  | true =>
    unfold keyOk at ho
    simp only [Bool.and_eq_true, List.all_eq_true] at ho
    rw [ho.2 _ (List.getElem_mem h)] at hk
    cases hk
theorem retB {a b : Bool} (h : a = b) : Ending.returned (.bool a) = Ending.returned (.bool b) := by rw [h]
set_option maxRecDepth 100000 in
theorem spanKey_any (w : World) (l : List UInt8) (hl : l.length ≤ 140737488355328) : Calls Tryz.prog 182 #[StrV l] w fun e w' => e = .returned (.bool (keyOk l)) ∧ w = w' := by
  have hsz := str_size l
  have hnil := str_nil l
  have hix : ∀ (w : World) (k : Nat) (h : k < l.length), (Instr.index 9 (.string ⟨l.toArray⟩) (.int .i64 (k : Int))).run Tryz.prog w = .ok (.int .u8 (l[k].toNat : Int)) w := fun w => str_index w l
  show Calls Tryz.prog 182 #[.string ⟨l.toArray⟩] w fun e w' => e = .returned (.bool (keyOk l)) ∧ w = w'
  generalize (⟨l.toArray⟩ : ByteArray) = s at hsz hnil hix ⊢
  by_cases h0 : l = []
  · rw [decide_eq_true h0] at hnil
    have H0 := Lib.hid h0
    clear h0 hix
    go_enter Tryz.func182, Tryz.ntmps182
    go_wp2_with fail
    go_ret
    exact ⟨retB (by rw [H0.out]; rfl), rfl⟩
  · have h1 : 1 ≤ l.length := List.length_pos_iff.2 h0
    rw [decide_eq_false h0] at hnil
    clear h0
    by_cases h2 : l.length ≤ 20
    · have h2i : ¬ (20 : Int) < (l.length : Int) := by omega
      go_enter Tryz.func182, Tryz.ntmps182
      go_wp2_with fail
      go_loopw [14] (fun i wx => KeyTo l w i wx) (fun i _ => l.length - (intOf i).toNat)
      case atStart => exact ⟨0, Nat.zero_le _, rfl, fun _ _ h => by omega, rfl⟩
      case round =>
        obtain ⟨k, hk, rfl, hok, rfl⟩ := hrel
        have HK := Lib.hid hok
        clear hok
        by_cases hlt : k < l.length
        · have hx := fun w => hix w k hlt
          obtain ⟨c, hc⟩ : ∃ c : Int, (l[k].toNat : Int) = c := ⟨_, rfl⟩
          rw [hc] at hx
          have HC := Lib.hid hc
          clear hc hix
          by_cases h3 : 97 ≤ c
          · by_cases h4 : c ≤ 122
            · go_wp2_with fail
              go_roundw
              case rel =>
                refine ⟨k + 1, by omega, rfl, fun j hj hjk => ?_, rfl⟩
                by_cases hjk2 : j < k
                · exact HK.out j hj hjk2
                · obtain rfl : j = k := by omega
                  have := HC.out
                  exact keyCh_yes (.inl (by omega))
              case measure => simp [intOf]; omega
            · have h5 : 48 ≤ c := by omega
              have h6 : ¬ c ≤ 57 := by omega
              go_wp2_with fail
              go_ret
              have := HC.out
              exact ⟨retB (keyOk_no k hlt (keyCh_no (by omega))).symm, rfl⟩
          · by_cases h5 : 48 ≤ c
            · by_cases h6 : c ≤ 57
              · go_wp2_with fail
                go_roundw
                case rel =>
                  refine ⟨k + 1, by omega, rfl, fun j hj hjk => ?_, rfl⟩
                  by_cases hjk2 : j < k
                  · exact HK.out j hj hjk2
                  · obtain rfl : j = k := by omega
                    have := HC.out
                    exact keyCh_yes (.inr (by omega))
                case measure => simp [intOf]; omega
              · go_wp2_with fail
                go_ret
                have := HC.out
                exact ⟨retB (keyOk_no k hlt (keyCh_no (by omega))).symm, rfl⟩
            · go_wp2_with fail
              go_ret
              have := HC.out
              exact ⟨retB (keyOk_no k hlt (keyCh_no (by omega))).symm, rfl⟩
        · go_wp2_with fail
          go_ret
          refine ⟨retB ?_, rfl⟩
          unfold keyOk
          rw [decide_eq_true h1, decide_eq_true h2, Bool.true_and, Bool.true_and]
          refine (List.all_eq_true.2 fun x hx => ?_).symm
          obtain ⟨j, hj, rfl⟩ := List.mem_iff_getElem.1 hx
          exact HK.out j hj (by omega)
    · have h2i : (20 : Int) < (l.length : Int) := by omega
      go_enter Tryz.func182, Tryz.ntmps182
      go_wp2_with fail
      go_ret
      exact ⟨retB (by unfold keyOk; rw [decide_eq_false h2]; simp), rfl⟩
end Go.Proofs.YtkjnlhidnkbelaaGreatDoor
/- Rulings: the document's key; reads told right or not. -/
namespace Go.Proofs.YtkjnlhidnkbelaaGreatDoor
open Go Go.RowKit
set_option maxRecDepth 100000 in
theorem refKey_any (w : World) (l : List UInt8) (hl : l.length ≤ 140737488355328) : Calls Tryz.prog 157 #[StrV l] w fun e w' => e = .returned (.bool (keyOk l)) ∧ w = w' := by
  have hsz := str_size l
  have hnil := str_nil l
  have hix : ∀ (w : World) (k : Nat) (h : k < l.length), (Instr.index 9 (.string ⟨l.toArray⟩) (.int .i64 (k : Int))).run Tryz.prog w = .ok (.int .u8 (l[k].toNat : Int)) w := fun w => str_index w l
  show Calls Tryz.prog 157 #[.string ⟨l.toArray⟩] w fun e w' => e = .returned (.bool (keyOk l)) ∧ w = w'
  generalize (⟨l.toArray⟩ : ByteArray) = s at hsz hnil hix ⊢
  by_cases h0 : l = []
  · rw [decide_eq_true h0] at hnil
    have H0 := Lib.hid h0
    have hz : l.length = 0 := by rw [h0]; rfl
    clear h0 hix
    go_enter Tryz.func157, Tryz.ntmps157
    go_wp2_with fail
    go_ret
    exact ⟨retB (by rw [H0.out]; rfl), rfl⟩
  · have h1 : 1 ≤ l.length := List.length_pos_iff.2 h0
    have h1i : ¬ (l.length : Int) < 1 := by omega
    rw [decide_eq_false h0] at hnil
    clear h0
    by_cases h2 : l.length ≤ 20
    · have h2i : ¬ (20 : Int) < (l.length : Int) := by omega
      go_enter Tryz.func157, Tryz.ntmps157
      go_wp2_with fail
      go_loopw [3] (fun i wx => KeyTo l w i wx) (fun i _ => l.length - (intOf i).toNat)
      case atStart => exact ⟨0, Nat.zero_le _, rfl, fun _ _ h => by omega, rfl⟩
      case round =>
        obtain ⟨k, hk, rfl, hok, rfl⟩ := hrel
        have HK := Lib.hid hok
        clear hok
        by_cases hlt : k < l.length
        · have hx := fun w => hix w k hlt
          obtain ⟨c, hc⟩ : ∃ c : Int, (l[k].toNat : Int) = c := ⟨_, rfl⟩
          rw [hc] at hx
          have HC := Lib.hid hc
          clear hc hix
          by_cases h3 : 97 ≤ c
          · by_cases h4 : c ≤ 122
            · go_wp2_with fail
              go_roundw
              case rel =>
                refine ⟨k + 1, by omega, rfl, fun j hj hjk => ?_, rfl⟩
                by_cases hjk2 : j < k
                · exact HK.out j hj hjk2
                · obtain rfl : j = k := by omega
                  have := HC.out
                  exact keyCh_yes (.inl (by omega))
              case measure => simp [intOf]; omega
            · have h5 : 48 ≤ c := by omega
              have h6 : ¬ c ≤ 57 := by omega
              go_wp2_with fail
              go_ret
              have := HC.out
              exact ⟨retB (keyOk_no k hlt (keyCh_no (by omega))).symm, rfl⟩
          · by_cases h5 : 48 ≤ c
            · by_cases h6 : c ≤ 57
              · go_wp2_with fail
                go_roundw
                case rel =>
                  refine ⟨k + 1, by omega, rfl, fun j hj hjk => ?_, rfl⟩
                  by_cases hjk2 : j < k
                  · exact HK.out j hj hjk2
                  · obtain rfl : j = k := by omega
                    have := HC.out
                    exact keyCh_yes (.inr (by omega))
                case measure => simp [intOf]; omega
              · go_wp2_with fail
                go_ret
                have := HC.out
                exact ⟨retB (keyOk_no k hlt (keyCh_no (by omega))).symm, rfl⟩
            · go_wp2_with fail
              go_ret
              have := HC.out
              exact ⟨retB (keyOk_no k hlt (keyCh_no (by omega))).symm, rfl⟩
        · go_wp2_with fail
          go_ret
          refine ⟨retB ?_, rfl⟩
          unfold keyOk
          rw [decide_eq_true h1, decide_eq_true h2, Bool.true_and, Bool.true_and]
          refine (List.all_eq_true.2 fun x hx => ?_).symm
          obtain ⟨j, hj, rfl⟩ := List.mem_iff_getElem.1 hx
          exact HK.out j hj (by omega)
    · have h2i : (20 : Int) < (l.length : Int) := by omega
      go_enter Tryz.func157, Tryz.ntmps157
      go_wp2_with fail
      go_ret
      exact ⟨retB (by unfold keyOk; rw [decide_eq_false h2]; simp), rfl⟩

/-- A read as a value. -/
abbrev RdgV (r : Rdg) : Value := .agg #[StrV r.1, .bool r.2.1, StrV r.2.2]
theorem wrong_any (w : World) (r : Rdg) (h1 : r.1.length ≤ 140737488355328) (h2 : r.2.2.length ≤ 140737488355328) : Calls Tryz.prog 155 #[RdgV r] w fun e w' => e = .returned (.bool (!rdgOk r)) ∧ Nw w w' := by
  obtain ⟨a, b, l⟩ := r
  have hcon := fun w => spanKey_any w a h1
  have hsz := str_size l
  have hnil := str_nil l
  have hgo : rdgOk (a, b, l) = (keyOk a && (decide (l.length ≤ 20) && (b || decide (l = [])))) := rfl
  generalize decide (l = []) = n at hnil hgo
  generalize keyOk a = q at hcon hgo
  generalize rdgOk (a, b, l) = res at hgo ⊢
  have HG := Lib.hid hgo
  clear hgo
  show Calls Tryz.prog 155 #[.agg #[StrV a, .bool b, .string ⟨l.toArray⟩]] w fun e w' => e = .returned (.bool (!res)) ∧ Nw w w'
  generalize (⟨l.toArray⟩ : ByteArray) = s at hsz hnil ⊢
  by_cases h20 : l.length ≤ 20
  · have h2i : decide ((20 : Int) < (l.length : Int)) = false := decide_eq_false (by omega)
    have H := Lib.hid (decide_eq_true h20)
    cases q <;> cases b <;> cases n <;>
    · go_enter Tryz.func155, Tryz.ntmps155
      go_wp2_with (go_at_call 182; refine (hcon _).mono ?_; rintro e w1 ⟨rfl, rfl⟩)
      go_ret
      exact ⟨retB (by rw [HG.out, H.out]; rfl), (Fr.refl _ w).alloc _⟩
  · have h2i : decide ((20 : Int) < (l.length : Int)) = true := decide_eq_true (by omega)
    have H := Lib.hid (decide_eq_false h20)
    cases q <;> cases b <;> cases n <;>
    · go_enter Tryz.func155, Tryz.ntmps155
      go_wp2_with (go_at_call 182; refine (hcon _).mono ?_; rintro e w1 ⟨rfl, rfl⟩)
      go_ret
      exact ⟨retB (by rw [HG.out, H.out]; rfl), (Fr.refl _ w).alloc _⟩
theorem readRight_any (w : World) (r : Rdg) (h1 : r.1.length ≤ 140737488355328) (h2 : r.2.2.length ≤ 140737488355328) : Calls Tryz.prog 136 #[RdgV r] w fun e w' => e = .returned (.bool (rdgOk r)) ∧ Nw w w' := by
  obtain ⟨a, b, l⟩ := r
  have hcon := fun w => refKey_any w a h1
  have hsz := str_size l
  have hnil := str_nil l
  have hgo : rdgOk (a, b, l) = (keyOk a && (decide (l.length ≤ 20) && (b || decide (l = [])))) := rfl
  generalize decide (l = []) = n at hnil hgo
  generalize keyOk a = q at hcon hgo
  generalize rdgOk (a, b, l) = res at hgo ⊢
  have HG := Lib.hid hgo
  clear hgo
  show Calls Tryz.prog 136 #[.agg #[StrV a, .bool b, .string ⟨l.toArray⟩]] w fun e w' => e = .returned (.bool res) ∧ Nw w w'
  generalize (⟨l.toArray⟩ : ByteArray) = s at hsz hnil ⊢
  by_cases h20 : l.length ≤ 20
  · have h2i : (l.length : Int) ≤ 20 := by omega
    have H := Lib.hid (decide_eq_true h20)
    cases q <;> cases b <;> cases n <;>
    · go_enter Tryz.func136, Tryz.ntmps136
      go_wp2_with (go_at_call 157; refine (hcon _).mono ?_; rintro e w1 ⟨rfl, rfl⟩)
      go_ret
      exact ⟨retB (by rw [HG.out, H.out]; rfl), (Fr.refl _ w).alloc _⟩
  · have h2i : ¬ (l.length : Int) ≤ 20 := by omega
    have H := Lib.hid (decide_eq_false h20)
    cases q <;> cases b <;> cases n <;>
    · go_enter Tryz.func136, Tryz.ntmps136
      go_wp2_with (go_at_call 157; refine (hcon _).mono ?_; rintro e w1 ⟨rfl, rfl⟩)
      go_ret
      exact ⟨retB (by rw [HG.out, H.out]; rfl), (Fr.refl _ w).alloc _⟩
end Go.Proofs.YtkjnlhidnkbelaaGreatDoor
/- Structs in memory, over any program: a block that is set whole; what a function tells out of a variable. -/
namespace Go.Proofs.YtkjnlhidnkbelaaGreatDoor
open Go Go.RowKit

section
variable {w w' : World} {g g' : Nat} {t : TypeId} {cs cs' : Array Value} {S : Nat → Prop}
theorem Blk.row (h : Blk w g t cs) (cs' : Array Value) : Blk (w.setRow g cs') g t cs' := setRow_heap w g cs cs' t (0, 0) h
theorem Blk.rowFar (h : Blk w g t cs) (hn : g ≠ g') (cs' : Array Value) : Blk (w.setRow g' cs') g t cs := (setRow_other w g' g cs' hn).trans h
theorem Fr.setRow (h : Fr S w w') (hp : S g ∨ w.heap.size ≤ g) (cs : Array Value) : Fr S w (w'.setRow g cs) :=
  ⟨h.os, h.tape, h.output, by simpa [World.setRow] using h.size, fun i hi hn => (setRow_other w' g i cs (by
    rintro rfl
    rcases hp with hp | hp
    · exact hn hp
    · omega)).trans (h.block i hi hn)⟩
end
section
variable {P : Program}
/-- A struct out of a variable, and a value behind it. -/
theorem results_cell_tmp_row {fn : Func} {p q : Tmp} {ty : TypeId} (h : fn.results = #[.cell p ty, .tmp q]) (tmps : Array Value) (w : World) (g : Nat) (t : TypeId) (cs : Array Value) (fr : Nat × Nat) (d : TypeDesc) (v : Value)
    (hp : tmps.getD p undef = .pointer (some ⟨g, 0, none⟩)) (hq : tmps.getD q undef = v) (hg : w.heap[g]? = some (.cells cs t fr))
    (hu : P.underlying ty = some d) (hd : (match d with | .struct _ | .array _ _ => true | _ => false) = true) (hi : (P.info? ty).map (·.size) = some cs.size) :
    (results fn tmps).run P w = .ok (.tuple #[.agg cs, v]) w := by
  have hp' : tmps[p]?.getD undef = .pointer (some ⟨g, 0, none⟩) := by simpa using hp
  have hq' : tmps[q]?.getD undef = v := by simpa using hq
  simp [results, h, hp', hq', asAddr, run_loadVar_row w g t ty cs fr d hg hu hd hi]
end
/-- The walk over an append behind a guard that says yes. -/
theorem wl_append2w {P : Program} {E : TypeId} {size n cap : Nat} {A : Option Addr} {cs : List Value} {F : Nat → Prop} {w : World} {ops : Array Oper} {rest : List Oper} {o : Oper} {a : Act} {Q : Exit → Act → World → Prop} (hw : Region.wanted o (yielded ops a.tmps) = true) (s x : Operand) (t : TypeId)
    (ho : o.op = .call { callee := .builtin .append, args := #[s, x], argTypes := #[t, t] }) (bytes : Nat) (z : Value) (ht : P.underlying t = some (.slice E))
    (hinfo : (P.info? E).map (fun i => (i.zero, i.size, i.bytes)) = some (some z, size, bytes)) (hzs : z.cells.size = size) (hsz : 0 < size)
    (hs : a.eval s = .slice A n cap) (hown : Own w E size A n cap cs) {A2 : Option Addr} {m c : Nat} {news : List Value} (hx : a.eval x = .slice A2 m c) (hsl : Sl w F A2 news) (hl : news.length = m * size) (h1 : ∀ u ∈ news, u.oneCell' = true)
    (hbytes : (n + m) * bytes ≤ 140737488355328) (hmax : n + m ≤ maxLen)
    (h : ∀ A' cap' w', AppTo w E size A n cap m cs news A' cap' w' → wpList P ops Q rest (a.put o.dst (.slice A' (n + m) cap')) w') :
    wpList P ops Q (o :: rest) a w := by
  refine BigFrame.wpList_want hw fun K hK' => ?_
  obtain ⟨A', cap', w', hrun, h2⟩ := run_append_two (P := P) w t o.type bytes z ht hinfo hzs hsz hown hsl hl h1 hbytes hmax (c := c)
  unfold Oper.wp execOp
  simp only [ho, resolve, invoke, builtin, Sem.run_bind, Sem.run_pure, Result.andThen_ok, List.map_toArray, List.map_cons, List.map_nil, hs, hx]
  rw [hrun]
  exact hK' _ _ (h A' cap' w' h2)

end Go.Proofs.YtkjnlhidnkbelaaGreatDoor
/- Rulings: reads cloned, compared, told right; a verdict copied. -/
namespace Go.Proofs.YtkjnlhidnkbelaaGreatDoor
open Go Go.RowKit

theorem Sl.rdg {w : World} {F : Nat → Prop} {A : Option Addr} {l : List Rdg} (h : Sl w F A (rdgsCells l)) {k : Nat} (hk : k < l.length) :
    ∃ b o, A = some ⟨b, o, none⟩ ∧ F b ∧ w.cell? ⟨b, o + k * 3, none⟩ = some (StrV l[k].1) ∧ w.cell? ⟨b, o + k * 3 + 1, none⟩ = some (.bool l[k].2.1) ∧ w.cell? ⟨b, o + k * 3 + 2, none⟩ = some (StrV l[k].2.2) := by
  obtain ⟨b, o, hA, hF, _, hc⟩ := h.at_ (by intro e; have := congrArg List.length e; rw [rdgsCells_len] at this; simp at this; omega)
  exact ⟨b, o, hA, hF, by have := hc (k * 3 + 0) _ (rdgsCells_at l k hk 0 (by omega)); simpa using this, by rw [Nat.add_assoc]; exact hc _ _ (rdgsCells_at l k hk 1 (by omega)), by rw [Nat.add_assoc]; exact hc _ _ (rdgsCells_at l k hk 2 (by omega))⟩
/-- Texts that are not beyond what a machine has. -/
def RdgSz (l : List Rdg) : Prop := ∀ r ∈ l, r.1.length ≤ 140737488355328 ∧ r.2.2.length ≤ 140737488355328

/-- A verdict's value. -/
abbrev VerV (v : Ver) (A : Option Addr) (c : Nat) : Value := .agg #[I64 v.1.1, I64 v.1.2, .bool v.2.1, I64 v.2.2.1, .slice A v.2.2.2.length c]
theorem ver_size : (Tryz.prog.info? 180).map (·.size) = some 5 := by kernel_rfl
end Go.Proofs.YtkjnlhidnkbelaaGreatDoor/- Rulings: verdicts told right or not, by the program and by the document. -/
namespace Go.Proofs.YtkjnlhidnkbelaaGreatDoor
open Go Go.RowKit

/-- All reads before the k-th are right. -/
def RdgTo (w : World) (l : List Rdg) (i : Value) (wx : World) : Prop := ∃ k : Nat, k ≤ l.length ∧ i = .int .i64 k ∧ (∀ j (h : j < l.length), j < k → rdgOk l[j] = true) ∧ Nw w wx
set_option maxRecDepth 100000 in
theorem indexRead_any (w : World) (F : Nat → Prop) (A : Option Addr) (c : Nat) (l : List Rdg) (hs : Sl w F A (rdgsCells l)) (hz : RdgSz l) (hl : l.length ≤ 1000000000) :
    Calls Tryz.prog 181 #[.slice A l.length c, .func (.func 155) #[] #[]] w
      fun e w' => ∃ i : Int, e = .returned (.int .i64 i) ∧ (0 ≤ i ↔ l.all rdgOk = false) ∧ Nw w w' := by
  go_enter Tryz.func181, Tryz.ntmps181
  go_wp2_with fail
  go_loopw [8] (fun i wx => RdgTo w l i wx) (fun i _ => l.length - (intOf i).toNat)
  case atStart => exact ⟨0, Nat.zero_le _, rfl, fun _ _ h => by omega, Fr.refl _ _⟩
  case round =>
    obtain ⟨k, hk, rfl, hok, hq⟩ := hrel
    have HK := Lib.hid hok
    clear hok
    by_cases hlt : k < l.length
    · obtain ⟨b, o, rfl, hF, hc1, hc2, hc3⟩ := (hs.fr hq (fun _ _ h => h)).rdg hlt
      have hzk := hz _ (List.getElem_mem hlt)
      have hcon := fun w => wrong_any w l[k] hzk.1 hzk.2
      have HX := Lib.hid (rfl : rdgOk l[k] = rdgOk l[k])
      clear hzk
      obtain ⟨p, hp⟩ : ∃ p, rdgOk l[k] = p := ⟨_, rfl⟩
      rw [hp] at hcon HX
      have HP := Lib.hid hp
      clear hp
      cases p
      · go_wp2_with (go_at_call 155; refine (hcon _).mono ?_; rintro e w1 ⟨rfl, q1⟩)
        go_ret
        refine ⟨k, rfl, ⟨fun _ => ?_, fun _ => by omega⟩, hq.tr q1⟩
        refine Bool.eq_false_iff.2 fun h => ?_
        have := List.all_eq_true.1 h _ (List.getElem_mem hlt)
        rw [HP.out] at this
        cases this
      · go_wp2_with (go_at_call 155; refine (hcon _).mono ?_; rintro e w1 ⟨rfl, q1⟩)
        go_roundw
        case rel =>
          refine ⟨k + 1, by omega, rfl, fun j hj hjk => ?_, hq.tr q1⟩
          by_cases hjk2 : j < k
          · exact HK.out j hj hjk2
          · obtain rfl : j = k := by omega
            exact HP.out
        case measure => simp [intOf]; omega
    · go_wp2_with fail
      go_ret
      have e : l.all rdgOk = true := List.all_eq_true.2 fun x hx => by
        obtain ⟨j, hj, rfl⟩ := List.mem_iff_getElem.1 hx
        exact HK.out j hj (by omega)
      exact ⟨-1, rfl, ⟨fun h => by omega, fun h => by rw [e] at h; cases h⟩, hq⟩
theorem containsRead_any (w : World) (F : Nat → Prop) (A : Option Addr) (c : Nat) (l : List Rdg) (hs : Sl w F A (rdgsCells l)) (hz : RdgSz l) (hl : l.length ≤ 1000000000) :
    Calls Tryz.prog 154 #[.slice A l.length c, .func (.func 155) #[] #[]] w
      fun e w' => e = .returned (.bool (!l.all rdgOk)) ∧ Nw w w' := by
  go_enter Tryz.func154, Tryz.ntmps154
  go_wp2_with fail
  refine (indexRead_any w F A c l hs hz hl).mono ?_
  rintro e w1 ⟨i, rfl, hi, q1⟩
  have hd : decide (0 ≤ i) = !l.all rdgOk := by
    by_cases h0 : 0 ≤ i
    · rw [decide_eq_true h0, hi.1 h0]; rfl
    · have hn : l.all rdgOk = true := by
        cases h : l.all rdgOk with
        | true => rfl
        | false => exact (h0 (hi.2 h)).elim
      rw [decide_eq_false h0, hn]; rfl
  have HD := Lib.hid hd
  clear hd hi
  go_wp2_with fail
  go_ret
  exact ⟨congrArg (fun b => Ending.returned (.bool b)) HD.out, q1⟩
/-- What is asked of a verdict ahead of its reads. -/
def verHead (v : Ver) : Bool := decide (nmOk v.1) && (decide (1 ≤ v.2.2.1 ∧ v.2.2.1 ≤ 1073741824) && (decide (v.2.2.2.length ≤ 6) && (v.2.1 || decide (v.2.2.2.length = 0))))
theorem verOk_eq (v : Ver) : verOk v = (verHead v && v.2.2.2.all rdgOk) := by
  unfold verOk verHead
  simp only [Bool.and_assoc]
theorem verHead_no {v : Ver} (h : ¬ (nmOk v.1 ∧ (1 ≤ v.2.2.1 ∧ v.2.2.1 ≤ 1073741824) ∧ v.2.2.2.length ≤ 6 ∧ (v.2.1 = true ∨ v.2.2.2.length = 0))) : verHead v = false := by
  refine Bool.eq_false_iff.2 fun hh => h ?_
  unfold verHead at hh
  simp only [Bool.and_eq_true, Bool.or_eq_true, decide_eq_true_eq] at hh
  exact hh
theorem verHead_yes {v : Ver} (h : nmOk v.1 ∧ (1 ≤ v.2.2.1 ∧ v.2.2.1 ≤ 1073741824) ∧ v.2.2.2.length ≤ 6 ∧ (v.2.1 = true ∨ v.2.2.2.length = 0)) : verHead v = true := by
  unfold verHead
  simp only [Bool.and_eq_true, Bool.or_eq_true, decide_eq_true_eq]
  exact h
set_option maxRecDepth 100000 in
set_option maxHeartbeats 1000000 in
theorem rightc_any (w : World) (F : Nat → Prop) (v : Ver) (A : Option Addr) (c : Nat) (hs : Sl w F A (rdgsCells v.2.2.2)) (hz : RdgSz v.2.2.2) (hl : v.2.2.2.length ≤ 1000000000) :
    Calls Tryz.prog 153 #[VerV v A c] w fun e w' => e = .returned (.bool (!verOk v)) ∧ Nw w w' := by
  have hno := verHead_no (v := v)
  have hyes := verHead_yes (v := v)
  have heq := verOk_eq v
  generalize verOk v = res at heq ⊢
  generalize verHead v = hd at heq hno hyes
  have HN := Lib.hid hno
  have HY := Lib.hid hyes
  have HE := Lib.hid heq
  clear hno hyes heq
  obtain ⟨⟨a, b⟩, m, t, l⟩ := v
  have hcon2 := fun (w1 : World) (q : Nw w w1) => containsRead_any w1 F A c l (hs.fr q (fun _ _ h => h)) hz hl
  have hcon := fun w => actName_any w (a, b)
  show Calls Tryz.prog 153 #[.agg #[I64 a, I64 b, .bool m, I64 t, .slice A l.length c]] w fun e w' => e = .returned (.bool (!res)) ∧ Nw w w'
  have hcon2 : ∀ (w1 : World) (q : Nw w w1), Calls Tryz.prog 154 #[.slice A l.length c, .func (.func 155) #[] #[]] w1 fun e w' => e = .returned (.bool (!l.all rdgOk)) ∧ Nw w1 w' := hcon2
  have HN : Hid (¬ (nmOk (a, b) ∧ (1 ≤ t ∧ t ≤ 1073741824) ∧ l.length ≤ 6 ∧ (m = true ∨ l.length = 0)) → hd = false) := HN
  have HY : Hid (nmOk (a, b) ∧ (1 ≤ t ∧ t ≤ 1073741824) ∧ l.length ≤ 6 ∧ (m = true ∨ l.length = 0) → hd = true) := HY
  have HE : Hid (res = (hd && l.all rdgOk)) := HE
  clear hs hz hl
  generalize l.all rdgOk = p at hcon2 HE
  generalize l.length = n at hcon2 HN HY ⊢
  have hB := Blk.new w 180 #[I64 a, I64 b, .bool m, I64 t, .slice A n c]
  have hk : ∀ w1, Nw (w.alloc (.cells #[I64 a, I64 b, .bool m, I64 t, .slice A n c] 180)) w1 → w1.cell? ⟨w.heap.size, 2, none⟩ = some (.bool m) ∧ w1.cell? ⟨w.heap.size, 3, none⟩ = some (I64 t) ∧ w1.cell? ⟨w.heap.size, 4, none⟩ = some (.slice A n c) := fun w1 q => by
    have h := hB.fr q (fun h => h)
    exact ⟨by simpa using h.cell 2, by simpa using h.cell 3, by simpa using h.cell 4⟩
  have q0 : Nw w (w.alloc (.cells #[I64 a, I64 b, .bool m, I64 t, .slice A n c] 180)) := (Fr.refl _ w).alloc _
  by_cases hn : nmOk (a, b)
  · rw [decide_eq_true hn] at hcon
    have H1 := Lib.hid hn
    clear hn
    by_cases h1 : 1 ≤ t
    · have h1i : decide (t < 1) = false := decide_eq_false (by omega)
      by_cases h2 : t ≤ 1073741824
      · have h2i : decide (1073741824 < t) = false := decide_eq_false (by omega)
        by_cases h6 : n ≤ 6
        · have h6i : decide ((6 : Int) < (n : Int)) = false := decide_eq_false (by omega)
          have go : ∀ (h : m = true ∨ n = 0), res = p := fun h => by rw [HE.out, HY.out ⟨H1.out, ⟨h1, h2⟩, h6, h⟩]; rfl
          have GO := Lib.hid go
          clear go
          cases m
          · by_cases h0 : n = 0
            · have h0i : decide ((0 : Int) < (n : Int)) = false := decide_eq_false (by omega)
              have h0n : decide (0 < n) = false := decide_eq_false (by omega)
              have G := Lib.hid (GO.out (.inr h0))
              have HL := Lib.hid h0
              clear h0
              cases p <;>
              · go_enter Tryz.func153, Tryz.ntmps153
                go_wp2_with (first | (go_at_call 50; refine (hcon _).mono ?_; rintro e w1 ⟨rfl, q1⟩; obtain ⟨k2, k3, k4⟩ := hk w1 q1) | (go_at_call 154; refine (hcon2 _ (q0.tr q1)).mono ?_; rintro e w2 ⟨rfl, q2⟩))
                go_ret
                exact ⟨retB (by rw [G.out]; rfl), (q0.tr q1).tr q2⟩
            · have h0i : decide ((0 : Int) < (n : Int)) = true := decide_eq_true (by omega)
              have h0n : decide (0 < n) = true := decide_eq_true (by omega)
              go_enter Tryz.func153, Tryz.ntmps153
              go_wp2_with (go_at_call 50; refine (hcon _).mono ?_; rintro e w1 ⟨rfl, q1⟩; obtain ⟨k2, k3, k4⟩ := hk w1 q1)
              go_ret
              exact ⟨retB (by rw [HE.out, HN.out (fun h => h.2.2.2.elim (fun h => by cases h) h0)]; rfl), q0.tr q1⟩
          · have G := Lib.hid (GO.out (.inl rfl))
            cases p <;>
            · go_enter Tryz.func153, Tryz.ntmps153
              go_wp2_with (first | (go_at_call 50; refine (hcon _).mono ?_; rintro e w1 ⟨rfl, q1⟩; obtain ⟨k2, k3, k4⟩ := hk w1 q1) | (go_at_call 154; refine (hcon2 _ (q0.tr q1)).mono ?_; rintro e w2 ⟨rfl, q2⟩))
              go_ret
              exact ⟨retB (by rw [G.out]; rfl), (q0.tr q1).tr q2⟩
        · have h6i : decide ((6 : Int) < (n : Int)) = true := decide_eq_true (by omega)
          go_enter Tryz.func153, Tryz.ntmps153
          go_wp2_with (go_at_call 50; refine (hcon _).mono ?_; rintro e w1 ⟨rfl, q1⟩; obtain ⟨k2, k3, k4⟩ := hk w1 q1)
          go_ret
          exact ⟨retB (by rw [HE.out, HN.out (fun h => h6 h.2.2.1)]; rfl), q0.tr q1⟩
      · have h2i : decide (1073741824 < t) = true := decide_eq_true (by omega)
        go_enter Tryz.func153, Tryz.ntmps153
        go_wp2_with (go_at_call 50; refine (hcon _).mono ?_; rintro e w1 ⟨rfl, q1⟩; obtain ⟨k2, k3, k4⟩ := hk w1 q1)
        go_ret
        exact ⟨retB (by rw [HE.out, HN.out (fun h => absurd h.2.1.2 (by omega))]; rfl), q0.tr q1⟩
    · have h1i : decide (t < 1) = true := decide_eq_true (by omega)
      go_enter Tryz.func153, Tryz.ntmps153
      go_wp2_with (go_at_call 50; refine (hcon _).mono ?_; rintro e w1 ⟨rfl, q1⟩; obtain ⟨k2, k3, k4⟩ := hk w1 q1)
      go_ret
      exact ⟨retB (by rw [HE.out, HN.out (fun h => absurd h.2.1.1 (by omega))]; rfl), q0.tr q1⟩
  · rw [decide_eq_false hn] at hcon
    have H1 := Lib.hid hn
    clear hn
    go_enter Tryz.func153, Tryz.ntmps153
    go_wp2_with (go_at_call 50; refine (hcon _).mono ?_; rintro e w1 ⟨rfl, q1⟩; obtain ⟨k2, k3, k4⟩ := hk w1 q1)
    go_ret
    exact ⟨retB (by rw [HE.out, HN.out (fun h => H1.out h.1)]; rfl), q0.tr q1⟩
end Go.Proofs.YtkjnlhidnkbelaaGreatDoor
/- Rulings: lists of verdicts told right or not; the document's look at one. -/
namespace Go.Proofs.YtkjnlhidnkbelaaGreatDoor
open Go Go.RowKit

/-- Verdicts that are not beyond what a machine has. -/
def VerSz (v : Ver) : Prop := v.2.2.2.length ≤ 1000000000 ∧ RdgSz v.2.2.2
def VersSz (l : List Ver) : Prop := ∀ v ∈ l, VerSz v
/-- A verdict's five cells, in a list. -/
abbrev verL (v : Ver) (A : Option Addr) (c : Nat) : List Value := [I64 v.1.1, I64 v.1.2, .bool v.2.1, I64 v.2.2.1, .slice A v.2.2.2.length c]
theorem Sl.ver {w : World} {F I : Nat → Prop} {A : Option Addr} {l : List Ver} {cs : List Value} (h : Sl w F A cs) (hv : VersC w I l cs) {k : Nat} (hk : k < l.length) :
    ∃ b o A' c', A = some ⟨b, o, none⟩ ∧ F b ∧ (∀ j v, (verL l[k] A' c')[j]? = some v → w.cell? ⟨b, o + k * 5 + j, none⟩ = some v) ∧ l[k].2.2.2.length ≤ c' ∧ c' ≤ maxLen ∧ Sl w I A' (rdgsCells l[k].2.2.2) := by
  have hne : cs ≠ [] := by
    intro e
    have := hv.1
    rw [e] at this
    simp at this
    omega
  obtain ⟨b, o, hA, hF, _, hc⟩ := h.at_ hne
  obtain ⟨A', c', h1, h2, h3, h4⟩ := hv.2 k hk
  refine ⟨b, o, A', c', hA, hF, fun j v hj => ?_, h2, h3, h4⟩
  rw [Nat.add_assoc]
  refine hc _ _ ?_
  have hj5 : j < 5 := by
    rcases Nat.lt_or_ge j 5 with h | h
    · exact h
    · rw [List.getElem?_eq_none (by simpa using h)] at hj; cases hj
  rw [drop5 cs k j hj5, h1]
  exact hj
def VerTo (w : World) (l : List Ver) (i : Value) (wx : World) : Prop := ∃ k : Nat, k ≤ l.length ∧ i = .int .i64 k ∧ (∀ j (h : j < l.length), j < k → verOk l[j] = true) ∧ Nw w wx
set_option maxRecDepth 100000 in
theorem indexVer_any (w : World) (F I : Nat → Prop) (A : Option Addr) (c : Nat) (l : List Ver) (cs : List Value) (hs : Sl w F A cs) (hv : VersC w I l cs) (hz : VersSz l) (hl : l.length ≤ 1000000000) :
    Calls Tryz.prog 180 #[.slice A l.length c, .func (.func 153) #[] #[]] w
      fun e w' => ∃ i : Int, e = .returned (.int .i64 i) ∧ (0 ≤ i ↔ l.all verOk = false) ∧ Nw w w' := by
  go_enter Tryz.func180, Tryz.ntmps180
  go_wp2_with fail
  go_loopw [8] (fun i wx => VerTo w l i wx) (fun i _ => l.length - (intOf i).toNat)
  case atStart => exact ⟨0, Nat.zero_le _, rfl, fun _ _ h => by omega, Fr.refl _ _⟩
  case round =>
    obtain ⟨k, hk, rfl, hok, hq⟩ := hrel
    have HK := Lib.hid hok
    clear hok
    by_cases hlt : k < l.length
    · obtain ⟨b, o, A', c', rfl, hF, hc, _, _, hs'⟩ := (hs.fr hq (fun _ _ h => h)).ver (hv.fr hq (fun _ _ h => h)) hlt
      have hzk := hz _ (List.getElem_mem hlt)
      have hcon := rightc_any _ I l[k] A' c' hs' hzk.2 hzk.1
      obtain ⟨p, hp⟩ : ∃ p, verOk l[k] = p := ⟨_, rfl⟩
      rw [hp] at hcon
      have HP := Lib.hid hp
      clear hp hzk
      cases p
      · go_wp2_with (first | (refine wl_load_cells rfl 180 _ rfl b (o + k * 5) rfl (verL l[k] A' c') _ hc Tryz.underlying180 rfl ver_size ?_) | (go_at_call 153; refine hcon.mono ?_; rintro e w1 ⟨rfl, q1⟩))
        go_ret
        refine ⟨k, rfl, ⟨fun _ => ?_, fun _ => by omega⟩, hq.tr q1⟩
        refine Bool.eq_false_iff.2 fun h => ?_
        have := List.all_eq_true.1 h _ (List.getElem_mem hlt)
        rw [HP.out] at this
        cases this
      · go_wp2_with (first | (refine wl_load_cells rfl 180 _ rfl b (o + k * 5) rfl (verL l[k] A' c') _ hc Tryz.underlying180 rfl ver_size ?_) | (go_at_call 153; refine hcon.mono ?_; rintro e w1 ⟨rfl, q1⟩))
        go_roundw
        case rel =>
          refine ⟨k + 1, by omega, rfl, fun j hj hjk => ?_, hq.tr q1⟩
          by_cases hjk2 : j < k
          · exact HK.out j hj hjk2
          · obtain rfl : j = k := by omega
            exact HP.out
        case measure => simp [intOf]; omega
    · go_wp2_with fail
      go_ret
      have e : l.all verOk = true := List.all_eq_true.2 fun x hx => by
        obtain ⟨j, hj, rfl⟩ := List.mem_iff_getElem.1 hx
        exact HK.out j hj (by omega)
      exact ⟨-1, rfl, ⟨fun h => by omega, fun h => by rw [e] at h; cases h⟩, hq⟩
theorem containsVer_any (w : World) (F I : Nat → Prop) (A : Option Addr) (c : Nat) (l : List Ver) (cs : List Value) (hs : Sl w F A cs) (hv : VersC w I l cs) (hz : VersSz l) (hl : l.length ≤ 1000000000) :
    Calls Tryz.prog 152 #[.slice A l.length c, .func (.func 153) #[] #[]] w
      fun e w' => e = .returned (.bool (!l.all verOk)) ∧ Nw w w' := by
  go_enter Tryz.func152, Tryz.ntmps152
  go_wp2_with fail
  refine (indexVer_any w F I A c l cs hs hv hz hl).mono ?_
  rintro e w1 ⟨i, rfl, hi, q1⟩
  have hd : decide (0 ≤ i) = !l.all verOk := by
    by_cases h0 : 0 ≤ i
    · rw [decide_eq_true h0, hi.1 h0]; rfl
    · have hn : l.all verOk = true := by
        cases h : l.all verOk with
        | true => rfl
        | false => exact (h0 (hi.2 h)).elim
      rw [decide_eq_false h0, hn]; rfl
  have HD := Lib.hid hd
  clear hd hi
  go_wp2_with fail
  go_ret
  exact ⟨congrArg (fun b => Ending.returned (.bool b)) HD.out, q1⟩
theorem right_any (w : World) (F I : Nat → Prop) (A : Option Addr) (c : Nat) (l : List Ver) (cs : List Value) (hs : Sl w F A cs) (hv : VersC w I l cs) (hz : VersSz l) (hl : l.length ≤ 1000000000) :
    Calls Tryz.prog 102 #[.slice A l.length c] w fun e w' => e = .returned (.bool (l.all verOk)) ∧ Nw w w' := by
  have hcon := containsVer_any w F I A c l cs hs hv hz hl
  generalize l.all verOk = b at hcon ⊢
  cases b <;>
  · go_enter Tryz.func102, Tryz.ntmps102
    go_wp2_with (go_at_call 152; refine hcon.mono ?_; rintro e w1 ⟨rfl, q1⟩)
    go_ret
    exact ⟨rfl, q1⟩
/-- One verdict, by itself, in a fresh list. -/
theorem right_one (w : World) (F : Nat → Prop) (v : Ver) (A : Option Addr) (c : Nat) (hs : Sl w F A (rdgsCells v.2.2.2)) (hc1 : v.2.2.2.length ≤ c) (hc2 : c ≤ maxLen) (hz : VerSz v) (g : Nat) (hg : g = w.heap.size) :
    Calls Tryz.prog 102 #[.slice (some ⟨g, 0, none⟩) 1 1] (w.alloc (.cells #[I64 v.1.1, I64 v.1.2, .bool v.2.1, I64 v.2.2.1, .slice A v.2.2.2.length c] 180)) fun e w' => e = .returned (.bool (verOk v)) ∧ Nw w w' := by
  subst hg
  have q0 : Nw w (w.alloc (.cells #[I64 v.1.1, I64 v.1.2, .bool v.2.1, I64 v.2.2.1, .slice A v.2.2.2.length c] 180)) := (Fr.refl _ w).alloc _
  have h1 := sl_new w 180 (verL v A c) w.heap.size rfl
  have h2 : VersC (w.alloc (.cells #[I64 v.1.1, I64 v.1.2, .bool v.2.1, I64 v.2.2.1, .slice A v.2.2.2.length c] 180)) F [v] (verL v A c) := (VersC.nil _ _).snoc ⟨A, c, rfl, hc1, hc2, hs.fr q0 (fun _ _ h => h)⟩
  refine (right_any _ _ F (some ⟨w.heap.size, 0, none⟩) 1 [v] (verL v A c) h1 h2 (fun x hx => by rw [List.mem_singleton.1 hx]; exact hz) (by simp)).mono ?_
  rintro e w' ⟨rfl, q⟩
  exact ⟨retB (by simp), q0.tr q⟩

end Go.Proofs.YtkjnlhidnkbelaaGreatDoor
