/- 'strings.Trim' at the letters of a value. -/
import Derived.Test.YtkjnlhidnkbelaaGreatDoorGr3
import Derived.Test.YtkjnlhidnkbelaaGreatDoorProg
import Derived.WalkKit
import Derived.Test.YtkjnlhidnkbelaaGreatDoorOdL
namespace Go.Proofs.YtkjnlhidnkbelaaGreatDoor
open Go Go.RowKit Go.Shelf

/-- The letters of a value. -/
def valSet : List UInt8 := [97, 98, 99, 100, 101, 102, 103, 104, 105, 106, 107, 108, 109, 110, 111, 112, 113, 114, 115, 116, 117, 118, 119, 120, 121, 122, 48, 49, 50, 51, 52, 53, 54, 55, 56, 57, 45]
theorem valSet_is (b : UInt8) : valSet.contains b = valCh b := by
  have h : ∀ n : Fin 256, valSet.contains (UInt8.ofNat n.val) = valCh (UInt8.ofNat n.val) := by decide +kernel
  have h1 := h ⟨b.toNat, b.toNat_lt⟩
  simpa using h1
theorem drop_all (p : UInt8 → Bool) (m : List UInt8) (h : ∀ x ∈ m.dropWhile p, p x = true) : ∀ x ∈ m, p x = true := by
  induction m with
  | nil => intro x hx; cases hx
  | cons a m ih =>
    by_cases ha : p a = true
    · rw [List.dropWhile_cons_of_pos ha] at h
      intro x hx
      rcases List.mem_cons.1 hx with rfl | hx
      · exact ha
      · exact ih h x hx
    · rw [List.dropWhile_cons_of_neg ha] at h
      exact absurd (h a (by simp)) ha
theorem drop_nil (p : UInt8 → Bool) (m : List UInt8) : m.dropWhile p = [] ↔ ∀ x ∈ m, p x = true := by
  induction m with
  | nil => simp
  | cons a m ih =>
    by_cases ha : p a = true
    · rw [List.dropWhile_cons_of_pos ha, ih]; simp [ha]
    · rw [List.dropWhile_cons_of_neg ha]; simp [ha]
theorem trim_nil (l : List UInt8) : (Lib.trimS l valSet = []) ↔ l.all valCh = true := by
  have e : (fun x => valSet.contains x) = valCh := funext valSet_is
  unfold Lib.trimS Lib.trimLeftS Lib.trimRightS
  rw [e, drop_nil, List.all_eq_true]
  constructor
  · intro h
    have h1 : ∀ x ∈ l.reverse, valCh x = true := drop_all valCh l.reverse fun x hx => h x (by simpa using hx)
    intro x hx
    exact h1 x (by simpa using hx)
  · intro h x hx
    have h2 : x ∈ l.reverse.dropWhile valCh := by simpa using hx
    exact h x (by simpa using (List.dropWhile_sublist valCh).subset h2)
theorem trim_any (w : World) (l : List UInt8) (hl : l.length ≤ 140737488355328) :
    Calls Tryz.prog 194 #[.string ⟨l.toArray⟩, .string ⟨#[97, 98, 99, 100, 101, 102, 103, 104, 105, 106, 107, 108, 109, 110, 111, 112, 113, 114, 115, 116, 117, 118, 119, 120, 121, 122, 48, 49, 50, 51, 52, 53, 54, 55, 56, 57, 45]⟩] w
      fun e w' => e = .returned (.string ⟨(Lib.trimS l valSet).toArray⟩) ∧ Below w.heap.size w w' := by
  have h := Any.strings_Trim_laid Tryz.lays160 (by kernel_rfl) ⟨l.toArray⟩ ⟨#[97, 98, 99, 100, 101, 102, 103, 104, 105, 106, 107, 108, 109, 110, 111, 112, 113, 114, 115, 116, 117, 118, 119, 120, 121, 122, 48, 49, 50, 51, 52, 53, 54, 55, 56, 57, 45]⟩ w (by simp [ByteArray.size]; omega) (by decide) (ascii_of_all (by decide))
  exact h
end Go.Proofs.YtkjnlhidnkbelaaGreatDoor
