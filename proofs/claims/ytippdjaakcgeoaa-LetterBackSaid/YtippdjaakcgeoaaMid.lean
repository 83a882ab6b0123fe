/- A struct stored into a part of a block. -/
import Derived.Test.YtippdjaakcgeoaaRec
import Derived.Deep.MidRow
namespace Go.Proofs.Ytippdjaakcgeoaa
open Go Go.RowKit

/-- Cells from place o on, others put there. -/
def putL : List Value → Nat → List Value → List Value
  | cs, 0, [] => cs
  | [], 0, _ :: _ => []
  | _ :: cs, 0, v :: vs => v :: putL cs 0 vs
  | [], _ + 1, _ => []
  | c :: cs, o + 1, vs => c :: putL cs o vs
theorem putL_nil (cs : List Value) (o : Nat) : putL cs o [] = cs := by
  induction cs generalizing o with
  | nil => cases o <;> rfl
  | cons c cs ih =>
    cases o with
    | zero => rfl
    | succ o => show c :: putL cs o [] = _; rw [ih]
theorem putL_cons (cs : List Value) (o : Nat) (v : Value) (vs : List Value) : putL cs o (v :: vs) = putL (cs.set o v) (o + 1) vs := by
  induction cs generalizing o with
  | nil => cases o <;> rfl
  | cons c cs ih =>
    cases o with
    | zero =>
      show v :: putL cs 0 vs = v :: putL cs 0 vs
      rfl
    | succ o =>
      show c :: putL cs o (v :: vs) = c :: putL (cs.set o v) (o + 1) vs
      rw [ih]
section
variable {w w' : World} {g : Nat} {t : TypeId} {l : List Value}
theorem Blk.setCells (h : Blk w g t l.toArray) (o : Nat) (vs : List Value) : Blk (w.setCells g o vs) g t (putL l o vs).toArray := by
  induction vs generalizing w o l with
  | nil => rw [putL_nil]; exact h
  | cons v vs ih =>
    rw [putL_cons]
    have h1 := h.set_ o v
    rw [List.setIfInBounds_toArray] at h1
    exact ih h1 (o + 1)
theorem Fr.set1 (f : Fr (· = g) w w') (k : Nat) (u : Value) : Fr (· = g) w (w'.setCell ⟨g, k, none⟩ u) := f.setCell (p := ⟨g, k, none⟩) (.inl rfl) u
theorem Fr.setCells (f : Fr (· = g) w w') (o : Nat) (vs : List Value) : Fr (· = g) w (w'.setCells g o vs) := by
  induction vs generalizing w' o with
  | nil => exact f
  | cons v vs ih => exact ih (f.set1 o v) (o + 1)
theorem Blk.there (h : Blk w g t l.toArray) (o n : Nat) (hn : o + n ≤ l.length) : w.there g o n := fun j hj => by
  have h1 := h.cell (o + j)
  have h2 := h.frozen (o + j)
  rw [h1]
  exact ⟨by simp; omega, h2⟩
theorem Blk.cells_at (h : Blk w g t l.toArray) (o : Nat) : ∀ p u, (l.drop o)[p]? = some u → w.cell? ⟨g, o + p, none⟩ = some u := fun p u hu => by
  rw [h.cell]
  simpa using hu
theorem Blk.cells_in (h : Blk w g t l.toArray) (o n : Nat) : ∀ p u, ((l.drop o).take n)[p]? = some u → w.cell? ⟨g, o + p, none⟩ = some u := fun p u hu => by
  refine h.cells_at o p u ?_
  rw [List.getElem?_take] at hu
  split at hu
  · exact hu
  · cases hu
theorem Blk.farCells {g' : Nat} {cs : Array Value} (h : Blk w g' t cs) (hne : g' ≠ g) (o : Nat) (vs : List Value) : Blk (w.setCells g o vs) g' t cs := h.fr (Fr.setCells (Fr.refl (· = g) w) o vs) hne
end
end Go.Proofs.Ytippdjaakcgeoaa
