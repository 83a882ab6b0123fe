/- Reads and verdicts in memory; a list of them; a book of the program's, and of the document's. -/
import Derived.Test.YtgmcjfjdjnoljaaRul
import Derived.Test.YtgmcjfjdjnoljaaMap
import Derived.Test.YtgmcjfjdjnoljaaWrA
namespace Go.Proofs.Ytgmcjfjdjnoljaa
open Go Go.RowKit

theorem info_read : (Try.prog.info? 83).map (fun i => (i.zero, i.size, i.bytes)) = some (some (.agg #[.string ⟨#[]⟩, .bool false, .string ⟨#[]⟩]), 3, 40) := by kernel_rfl
theorem info_ver : (Try.prog.info? 38).map (fun i => (i.zero, i.size, i.bytes)) = some (some (.agg #[.int .i64 0, .int .i64 0, .bool false, .int .i64 0, .slice none 0 0]), 5, 56) := by kernel_rfl
theorem info_rver : (Try.prog.info? 41).map (fun i => (i.zero, i.size, i.bytes)) = some (some (.agg #[.int .i64 0, .int .i64 0, .bool false, .int .i64 0, .slice none 0 0]), 5, 56) := by kernel_rfl

/-- A text as a value. -/
abbrev StrV (s : List UInt8) : Value := .string ⟨s.toArray⟩
theorem strV_of (s : ByteArray) : Value.string s = StrV s.data.toList := by
  show _ = Value.string ⟨s.data.toList.toArray⟩
  rw [Array.toArray_toList]
def rdgCells (r : Rdg) : List Value := [StrV r.1, .bool r.2.1, StrV r.2.2]
def rdgsCells (l : List Rdg) : List Value := (l.map rdgCells).flatten
theorem rdgsCells_cons (r : Rdg) (l : List Rdg) : rdgsCells (r :: l) = rdgCells r ++ rdgsCells l := rfl
theorem rdgsCells_append (a b : List Rdg) : rdgsCells (a ++ b) = rdgsCells a ++ rdgsCells b := by simp [rdgsCells]
theorem rdgsCells_len (l : List Rdg) : (rdgsCells l).length = l.length * 3 := by
  induction l with
  | nil => rfl
  | cons r l ih => rw [rdgsCells_cons, List.length_append, ih]; simp [rdgCells]; omega
theorem rdgsCells_one (l : List Rdg) : ∀ u ∈ rdgsCells l, u.oneCell' = true := by
  intro u hu
  obtain ⟨x, hx, hu⟩ := List.mem_flatten.1 hu
  obtain ⟨r, _, rfl⟩ := List.mem_map.1 hx
  simp [rdgCells] at hu
  rcases hu with rfl | rfl | rfl <;> rfl
theorem rdgsCells_at (l : List Rdg) (k : Nat) (h : k < l.length) (j : Nat) (hj : j < 3) : (rdgsCells l)[k * 3 + j]? = (rdgCells l[k])[j]? := by
  induction l generalizing k with
  | nil => simp at h
  | cons r l ih =>
    rw [rdgsCells_cons]
    cases k with
    | zero => rw [List.getElem?_append_left (by simp [rdgCells]; omega)]; simp
    | succ k =>
      rw [List.getElem?_append_right (by simp [rdgCells]; omega)]
      have := ih k (by simpa using h)
      rw [List.getElem_cons_succ, ← this]
      congr 1
      simp [rdgCells]
      omega
theorem rdgsCells_take (l : List Rdg) (k : Nat) : (rdgsCells l).take (k * 3) = rdgsCells (l.take k) := by
  induction l generalizing k with
  | nil => simp [rdgsCells]
  | cons r l ih =>
    cases k with
    | zero => simp [rdgsCells]
    | succ k =>
      rw [rdgsCells_cons, List.take_succ_cons, rdgsCells_cons, List.take_append, ← ih k]
      have e1 : (rdgCells r).length = 3 := rfl
      rw [List.take_of_length_le (by rw [e1]; omega), e1]
      congr 2
      omega

/-- A verdict's five cells. -/
def VerC (w : World) (F : Nat → Prop) (v : Ver) (cs : List Value) : Prop :=
  ∃ A c, cs = [I64 v.1.1, I64 v.1.2, .bool v.2.1, I64 v.2.2.1, .slice A v.2.2.2.length c] ∧ v.2.2.2.length ≤ c ∧ c ≤ maxLen ∧ Sl w F A (rdgsCells v.2.2.2)
/-- Verdicts' cells. -/
def VersC (w : World) (F : Nat → Prop) (l : List Ver) (cs : List Value) : Prop :=
  cs.length = l.length * 5 ∧ ∀ k (h : k < l.length), VerC w F l[k] ((cs.drop (k * 5)).take 5)
section
variable {w w' : World} {F F' S : Nat → Prop} {v : Ver} {l : List Ver} {cs : List Value}
theorem VerC.fr (h : VerC w F v cs) (hf : Fr S w w') (hn : ∀ b, F b → ¬ S b) : VerC w' F v cs := by
  obtain ⟨A, c, e, h1, h2, h3⟩ := h
  exact ⟨A, c, e, h1, h2, h3.fr hf hn⟩
theorem VerC.mono (h : VerC w F v cs) (hF : ∀ b, F b → b < w.heap.size → F' b) : VerC w F' v cs := by
  obtain ⟨A, c, e, h1, h2, h3⟩ := h
  exact ⟨A, c, e, h1, h2, h3.mono hF⟩
theorem VerC.len (h : VerC w F v cs) : cs.length = 5 := by
  obtain ⟨A, c, rfl, _⟩ := h
  rfl
theorem VerC.one (h : VerC w F v cs) : ∀ u ∈ cs, u.oneCell' = true := by
  obtain ⟨A, c, rfl, _⟩ := h
  intro u hu
  simp at hu
  rcases hu with rfl | rfl | rfl | rfl | rfl <;> rfl
theorem VersC.fr (h : VersC w F l cs) (hf : Fr S w w') (hn : ∀ b, F b → ¬ S b) : VersC w' F l cs := ⟨h.1, fun k hk => (h.2 k hk).fr hf hn⟩
theorem VersC.mono (h : VersC w F l cs) (hF : ∀ b, F b → b < w.heap.size → F' b) : VersC w F' l cs := ⟨h.1, fun k hk => (h.2 k hk).mono hF⟩
theorem VersC.nil (w : World) (F : Nat → Prop) : VersC w F [] [] := ⟨rfl, fun k hk => absurd hk (Nat.not_lt_zero _)⟩
theorem VersC.snoc {c5 : List Value} (h : VersC w F l cs) (hv : VerC w F v c5) : VersC w F (l ++ [v]) (cs ++ c5) := by
  refine ⟨by rw [List.length_append, h.1, hv.len, List.length_append]; simp; omega, fun k hk => ?_⟩
  rw [List.length_append, List.length_singleton] at hk
  rcases Nat.lt_or_ge k l.length with h1 | h1
  · rw [List.getElem_append_left h1, List.drop_append, List.take_append]
    have e1 : k * 5 - cs.length = 0 := by rw [h.1]; omega
    have e2 : (cs.drop (k * 5)).length = cs.length - k * 5 := List.length_drop
    have e3 : 5 - (cs.drop (k * 5)).length = 0 := by rw [e2, h.1]; omega
    rw [e3, List.take_zero, List.append_nil]
    exact h.2 k h1
  · have : k = l.length := by omega
    subst this
    rw [List.getElem_append_right (Nat.le_refl _), List.drop_append]
    have e1 : cs.drop (l.length * 5) = [] := List.drop_eq_nil_of_le (by rw [h.1]; omega)
    have e2 : l.length * 5 - cs.length = 0 := by rw [h.1]; omega
    rw [e1, e2, List.nil_append, List.drop_zero, List.take_of_length_le (by rw [hv.len]; omega)]
    simpa using hv
theorem drop5 (cs : List Value) (k : Nat) (j : Nat) (hj : j < 5) : cs[k * 5 + j]? = ((cs.drop (k * 5)).take 5)[j]? := by
  rw [List.getElem?_take, if_pos hj, List.getElem?_drop]
theorem verZero_c (w : World) (F : Nat → Prop) : VerC w F verZero [.int .i64 0, .int .i64 0, .bool false, .int .i64 0, .slice none 0 0] := ⟨none, 0, rfl, Nat.le_refl _, Nat.zero_le _, Sl.nil _ _ _⟩
end

/-- Where a name is in a book. -/
def idxV (n : Nm) (l : List Ver) : Option Nat := l.findIdx? (fun v => decide (v.1 = n))
theorem idxV_none {n : Nm} {l : List Ver} : idxV n l = none ↔ findV n l = none := by
  unfold idxV
  rw [List.findIdx?_eq_none_iff, findV_none]
  simp
theorem idxV_some {n : Nm} {l : List Ver} {k : Nat} (h : idxV n l = some k) : ∃ hk : k < l.length, findV n l = some l[k] := by
  unfold idxV at h
  obtain ⟨hk, h1, h2⟩ := List.findIdx?_eq_some_iff_getElem.1 h
  refine ⟨hk, ?_⟩
  clear h
  induction l generalizing k with
  | nil => simp at hk
  | cons v l ih =>
    unfold findV
    cases k with
    | zero => rw [if_pos (by simpa using h1)]; rfl
    | succ k =>
      have h0 := h2 0 (by omega)
      rw [if_neg (by simpa using h0)]
      exact ih (by simpa using hk) (by simpa using h1) (fun j hj => by have := h2 (j + 1) (by omega); simpa using this)
theorem idxV_snoc {l : List Ver} {x : Ver} (hf : findV x.1 l = none) (n : Nm) : idxV n (l ++ [x]) = if n = x.1 then some l.length else idxV n l := by
  unfold idxV
  rw [List.findIdx?_append]
  by_cases hn : n = x.1
  · subst hn
    have : l.findIdx? (fun v => decide (v.1 = x.1)) = none := idxV_none.2 hf
    rw [this, if_pos rfl]
    simp
  · rw [if_neg hn]
    have : ¬ x.1 = n := fun e => hn e.symm
    cases h : l.findIdx? (fun v => decide (v.1 = n)) <;> simp [this]
/-- What the book's map has under a name. -/
def atV (l : List Ver) (n : Nm) : Option Value := (idxV n l).map fun k => I64 (k : Nat)

/-- Block g is a book of the program's. -/
def IsBk (w : World) (F : Nat → Prop) (g : Nat) (l : List Ver) : Prop :=
  ∃ A cap hm cs I, Blk w g 88 #[.slice A l.length cap, .map (some hm)] ∧ Own w 38 5 A l.length cap cs ∧ VersC w I l cs ∧ MapN Try.prog 35 w hm l.length (atV l) ∧
    F g ∧ (∀ k, inA A k → F k) ∧ F hm ∧ (∀ k, I k → F k ∧ k ≠ g ∧ ¬ inA A k ∧ k ≠ hm) ∧ (¬ inA A hm ∧ hm ≠ g) ∧ ∀ k, F k → k < w.heap.size
/-- Block g is a book of the document's. -/
def IsRB (w : World) (F : Nat → Prop) (g : Nat) (l : List Ver) : Prop :=
  ∃ A cap cs I, Blk w g 31 #[.slice A l.length cap] ∧ Own w 41 5 A l.length cap cs ∧ VersC w I l cs ∧
    F g ∧ (∀ k, inA A k → F k) ∧ (∀ k, I k → F k ∧ k ≠ g ∧ ¬ inA A k) ∧ ∀ k, F k → k < w.heap.size
theorem IsBk.fr {w w' : World} {F S : Nat → Prop} {g : Nat} {l : List Ver} (h : IsBk w F g l) (hf : Fr S w w') (hd : ∀ k, F k → ¬ S k) : IsBk w' F g l := by
  obtain ⟨A, cap, hm, cs, I, h1, h2, h3, h4, h5, h6, h7, h8, h9, h10⟩ := h
  exact ⟨A, cap, hm, cs, I, h1.fr hf (hd _ h5), h2.fr hf (fun k hk => hd k (h6 k hk)), h3.fr hf (fun k hk => hd k (h8 k hk).1), h4.fr hf (hd _ h7), h5, h6, h7, h8, h9, fun k hk => Nat.lt_of_lt_of_le (h10 k hk) hf.size⟩
theorem IsRB.fr {w w' : World} {F S : Nat → Prop} {g : Nat} {l : List Ver} (h : IsRB w F g l) (hf : Fr S w w') (hd : ∀ k, F k → ¬ S k) : IsRB w' F g l := by
  obtain ⟨A, cap, cs, I, h1, h2, h3, h5, h6, h8, h10⟩ := h
  exact ⟨A, cap, cs, I, h1.fr hf (hd _ h5), h2.fr hf (fun k hk => hd k (h6 k hk)), h3.fr hf (fun k hk => hd k (h8 k hk).1), h5, h6, h8, fun k hk => Nat.lt_of_lt_of_le (h10 k hk) hf.size⟩
theorem IsBk.lt {w : World} {F : Nat → Prop} {g : Nat} {l : List Ver} (h : IsBk w F g l) : ∀ k, F k → k < w.heap.size := by
  obtain ⟨_, _, _, _, _, _, _, _, _, _, _, _, _, _, h⟩ := h
  exact h
theorem IsRB.lt {w : World} {F : Nat → Prop} {g : Nat} {l : List Ver} (h : IsRB w F g l) : ∀ k, F k → k < w.heap.size := by
  obtain ⟨_, _, _, _, _, _, _, _, _, _, h⟩ := h
  exact h
/-- What a step of a book leaves. -/
def BkTo (w : World) (F : Nat → Prop) (g : Nat) (l : List Ver) (w' : World) : Prop := ∃ F', IsBk w' F' g l ∧ Fr F w w' ∧ ∀ k, F' k → F k ∨ w.heap.size ≤ k
def RBTo (w : World) (F : Nat → Prop) (g : Nat) (l : List Ver) (w' : World) : Prop := ∃ F', IsRB w' F' g l ∧ Fr F w w' ∧ ∀ k, F' k → F k ∨ w.heap.size ≤ k

/-! The key of the map. -/
theorem ru_laid : laidOutB Try.prog = true := by kernel_rfl
theorem ru_law : Maps.Keyed Try.prog 35 := Maps.Keyed.of_law (deep_law_laid ru_laid (m := 2) (by omega) (of_decide_eq_true (by kernel_rfl)) (by kernel_rfl) (by kernel_rfl))
theorem ru_size : ∃ m, Try.prog.types.size + 1 = m + 1 + 1 := by
  have h : (35 : Nat) < Try.prog.types.size := of_decide_eq_true (by kernel_rfl)
  exact ⟨Try.prog.types.size - 1, by omega⟩
theorem ru_key (n : Nm) (h : NmWf n) : keyOf Try.prog 35 (nmKey n) = some (.string (keyBytes [.int .i64 n.1, .int .i64 n.2])) := by
  have hkt : Try.prog.keyType 35 = true := by kernel_rfl
  have hc : Try.prog.cellsOf 35 = 2 := by kernel_rfl
  have hci : Try.prog.cellsOf 3 = 1 := by kernel_rfl
  obtain ⟨m, hm⟩ := ru_size
  unfold keyOf
  simp only [Try.underlying35]
  rw [if_pos (by simp [hkt, Value.formed, Try.underlying35, hc]), hm]
  unfold Program.keyLits
  simp only [Try.underlying35, Value.cells]
  rw [if_pos (by rw [hc]; exact ⟨rfl, by kernel_rfl⟩)]
  simp [Program.keyLits, Try.underlying3, hci, h.1, h.2]
theorem ru_names : NameKey Try.prog 35 := ⟨ru_law, fun n h => ⟨_, ru_key n h⟩⟩
end Go.Proofs.Ytgmcjfjdjnoljaa
