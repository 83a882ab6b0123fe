/- The statements' kit: lists of bytes that lie apart: the words. -/
import Derived.Test.YtkjnlhidnkbelaaGreatDoorByA
import Derived.Test.YtkjnlhidnkbelaaGreatDoorKitB
namespace Go.Proofs.YtkjnlhidnkbelaaGreatDoor
open Go Go.RowKit

/-- Marks, from the first one on. -/
def mks (k n : Nat) : List UInt8 := (List.range n).map (mkB k)
theorem mks_len (k n : Nat) : (mks k n).length = n := by simp [mks]
theorem mks_succ (k n : Nat) : mks k (n + 1) = mks k n ++ [mkB k n] := by
  unfold mks
  rw [List.range_succ, List.map_append]
  rfl
theorem mks_at (k n i : Nat) (h : i < n) : (mks k n)[i]? = some (mkB k i) := by simp [mks, h]
theorem mks_take (k n i : Nat) (h : i ≤ n) : (mks k n).take i = mks k i := by
  unfold mks
  rw [← List.map_take, List.take_range, Nat.min_eq_left h]

section
variable {w w' : World} {m : Nat} {A : Nat → Option Addr} {N cp : Nat → Nat} {f : Nat → List UInt8}
/-- Rows of bytes, each the call's own. -/
def RowsAt (w : World) (m : Nat) (A : Nat → Option Addr) (N cp : Nat → Nat) (f : Nat → List UInt8) : Prop := ∀ k, k < m → Own w 5 1 (A k) (N k) (cp k) ((f k).map B8)
/-- No two lie in one block. -/
def FarR (m : Nat) (A : Nat → Option Addr) : Prop := ∀ i j, i < m → j < m → i ≠ j → ∀ b, inA (A i) b → ¬ inA (A j) b
def InR (m : Nat) (A : Nat → Option Addr) (b : Nat) : Prop := ∃ k, k < m ∧ inA (A k) b

theorem RowsAt.len (h : RowsAt w m A N cp f) {k : Nat} (hk : k < m) : (f k).length = N k := by
  have := (h k hk).1
  simpa using this
theorem RowsAt.fr {S : Nat → Prop} (h : RowsAt w m A N cp f) (hf : Fr S w w') (hn : ∀ k, k < m → ∀ b, inA (A k) b → ¬ S b) : RowsAt w' m A N cp f := fun k hk => (h k hk).fr hf (hn k hk)
theorem RowsAt.nw (h : RowsAt w m A N cp f) (hf : Nw w w') : RowsAt w' m A N cp f := h.fr hf (fun _ _ _ _ h => h)
theorem RowsAt.congr {g : Nat → List UInt8} (h : RowsAt w m A N cp f) (hg : ∀ k, k < m → f k = g k) : RowsAt w m A N cp g := fun k hk => by rw [← hg k hk]; exact h k hk
theorem RowsAt.inlt (h : RowsAt w m A N cp f) {b : Nat} (hb : InR m A b) : b < w.heap.size := by
  obtain ⟨k, hk, hb⟩ := hb
  exact (h k hk).lt b hb
/-- One row turned. -/
def upd (f : Nat → List UInt8) (k : Nat) (g : List UInt8) : Nat → List UInt8 := fun j => if j = k then g else f j
theorem upd_same (f : Nat → List UInt8) (k : Nat) (g : List UInt8) : upd f k g k = g := by simp [upd]
theorem upd_ne (f : Nat → List UInt8) {k j : Nat} (g : List UInt8) (h : j ≠ k) : upd f k g j = f j := by simp [upd, h]
theorem RowsAt.step (h : RowsAt w m A N cp f) (hfar : FarR m A) {k : Nat} (hk : k < m) {g : List UInt8} (hf : Fr (inA (A k)) w w') (ho : Own w' 5 1 (A k) (N k) (cp k) (g.map B8)) : RowsAt w' m A N cp (upd f k g) := by
  intro j hj
  by_cases e : j = k
  · subst e; rw [upd_same]; exact ho
  · rw [upd_ne f g e]
    exact (h j hj).fr hf (fun b hb hb2 => hfar j k hj hk e b hb hb2)
theorem RowsAt.same (h : RowsAt w m A N cp f) (hfar : FarR m A) {k : Nat} (hk : k < m) (hf : Fr (inA (A k)) w w') (ho : Own w' 5 1 (A k) (N k) (cp k) ((f k).map B8)) : RowsAt w' m A N cp f := by
  intro j hj
  by_cases e : j = k
  · subst e; exact ho
  · exact (h j hj).fr hf (fun b hb hb2 => hfar j k hj hk e b hb hb2)
theorem InR.fr {k : Nat} (hk : k < m) (hf : Fr (inA (A k)) w w') : Fr (InR m A) w w' := hf.mono fun _ hb => .inl ⟨k, hk, hb⟩

/-- How the rows' headers stand in a list. -/
abbrev hdr (A : Nat → Option Addr) (N cp : Nat → Nat) (k : Nat) : Value := .slice (A k) (N k) (cp k)
def hdrs (m : Nat) (A : Nat → Option Addr) (N cp : Nat → Nat) : List Value := (List.range m).map (hdr A N cp)
theorem hdrs_len : (hdrs m A N cp).length = m := by simp [hdrs]
theorem hdrs_at {k : Nat} (h : k < m) : (hdrs m A N cp)[k]? = some (hdr A N cp k) := by simp [hdrs, h]
theorem Sl.hdr {F : Nat → Prop} {B : Option Addr} (h : Sl w F B (hdrs m A N cp)) {k : Nat} (hk : k < m) : ∃ b o, B = some ⟨b, o, none⟩ ∧ F b ∧ w.cell? ⟨b, o + k, none⟩ = some (.slice (A k) (N k) (cp k)) := by
  obtain ⟨b, o, hB, hF, _, hc⟩ := h.at_ (by intro e; have := congrArg List.length e; rw [hdrs_len] at this; simp at this; omega)
  exact ⟨b, o, hB, hF, hc k _ (hdrs_at hk)⟩
end

/-- Stage one: the first k rows bear their marks, and i places of the next one. -/
def Ap1 (w : World) (m : Nat) (A : Nat → Option Addr) (N cp : Nat → Nat) (k : Nat) (wr : World) : Prop :=
  ∃ f, RowsAt wr m A N cp f ∧ (∀ j, j < k → f j = mks j (N j)) ∧ Fr (InR m A) w wr
def Ap1o (w : World) (m : Nat) (A : Nat → Option Addr) (N cp : Nat → Nat) (i : Value) (wr : World) : Prop := ∃ k : Nat, k ≤ m ∧ i = .int .i64 k ∧ Ap1 w m A N cp k wr
def Ap1i (w : World) (m : Nat) (A : Nat → Option Addr) (N cp : Nat → Nat) (k : Nat) (i : Value) (wr : World) : Prop :=
  ∃ (j : Nat) (f : Nat → List UInt8), j ≤ N k ∧ i = .int .i64 j ∧ RowsAt wr m A N cp f ∧ (∀ j, j < k → f j = mks j (N j)) ∧ (f k).take j = mks k j ∧ Fr (InR m A) w wr
theorem Ap1i.next {w wr w' : World} {m : Nat} {A : Nat → Option Addr} {N cp : Nat → Nat} {k j : Nat} {f : Nat → List UInt8} (hfar : FarR m A) (hk : k < m) (hj : j < N k) (hr : RowsAt wr m A N cp f) (hb : ∀ j, j < k → f j = mks j (N j)) (ht : (f k).take j = mks k j) (hf : Fr (InR m A) w wr)
    {g : Nat} (hA : A k = some ⟨g, 0, none⟩) (hw : w' = wr.setCell ⟨g, j, none⟩ (B8 (mkB k j))) : Ap1i w m A N cp k (.int .i64 ((j : Int) + 1)) w' := by
  subst hw
  have hlen := hr.len hk
  have ho := hr k hk
  rw [hA] at ho
  have hs := ho.store j (B8 (mkB k j))
  rw [← List.map_set, ← hA] at hs
  have hf1 : Fr (inA (A k)) wr (wr.setCell ⟨g, j, none⟩ (B8 (mkB k j))) := (Fr.refl _ wr).setCell (p := ⟨g, j, none⟩) (.inl (by rw [hA]; exact (inA_some _ _).2 rfl)) _
  refine ⟨j + 1, upd f k ((f k).set j (mkB k j)), hj, by go_num, hr.step hfar hk hf1 hs, fun i hi => ?_, ?_, hf.tr (InR.fr hk hf1)⟩
  · rw [upd_ne _ _ (by omega)]; exact hb i hi
  · rw [upd_same, mks_succ, ← ht, List.take_succ_eq_append_getElem (by simpa [hlen] using hj)]
    simp only [List.getElem_set_self]
    rw [List.take_set_of_le (Nat.le_refl _)]
end Go.Proofs.YtkjnlhidnkbelaaGreatDoor
