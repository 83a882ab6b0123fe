/- Reading in an order, in plain Lean. -/
import Derived.Test.YtgmcjfjdjnoljaaWire
namespace Go.Proofs.Ytgmcjfjdjnoljaa
open Go Go.RowKit

theorem rdNum_left (m : Int) (s : Rd) : rdLeft (rdNum m s).2 ≤ rdLeft s := by
  rcases rdNum_cases m s with h | ⟨bs, k, r, rfl, h, _, _, hb⟩
  · rw [h]; exact Nat.zero_le _
  · rw [h]; simp [rdLeft, hb]
theorem rdFlag_left (s : Rd) : rdLeft (rdFlag s).2 ≤ rdLeft s := by
  cases s with
  | none => exact Nat.le_refl _
  | some bs =>
    cases bs with
    | nil => exact Nat.le_refl _
    | cons b r =>
      by_cases h : 1 < b.toNat
      · have e : rdFlag (some (b :: r)) = (false, none) := by simp [rdFlag, h]
        rw [e]; exact Nat.zero_le _
      · have e : rdFlag (some (b :: r)) = (((b.toNat : Int) == 1), some r) := by simp [rdFlag, h]
        rw [e]; simp [rdLeft]
theorem rdRow_left (m : Int) (s : Rd) : rdLeft (rdRow m s).2 ≤ rdLeft s := by
  rcases rdNum_cases m s with h | ⟨bs, k, r, rfl, h, _, _, hb⟩
  · rw [rdRow_none h]; exact Nat.zero_le _
  · rw [rdRow_some h]
    split
    · exact Nat.zero_le _
    · simp [rdLeft, hb]; omega

/-- One step of reading: is all as it was; what is left. -/
abbrev RdQ := Bool × Rd
def rowQ (x : List UInt8) (q : RdQ) : RdQ := (decide ((rdRow (x.length : Nat) q.2).1 = x) && q.1, (rdRow (x.length : Nat) q.2).2)
def flagQ (x : Bool) (q : RdQ) : RdQ := (((rdFlag q.2).1 == x) && q.1, (rdFlag q.2).2)
def numQ (x : Int) (q : RdQ) : RdQ := (((rdNum x q.2).1 == x) && q.1, (rdNum x q.2).2)
def textQ (x : ByteArray) (q : RdQ) : RdQ := (((rdRow (x.size : Nat) q.2).1 == x.toList) && q.1, (rdRow (x.size : Nat) q.2).2)
def optQ {α : Type} (f : α → RdQ → RdQ) (x : Option α) (q : RdQ) : RdQ := match x with | none => q | some a => f a q
theorem optQ_none {α : Type} (f : α → RdQ → RdQ) (l : List α) (k : Nat) (q : RdQ) (h : ¬ k < l.length) : optQ f l[k]? q = q := by rw [List.getElem?_eq_none (by omega)]; rfl
theorem optQ_some {α : Type} (f : α → RdQ → RdQ) (l : List α) (k : Nat) (q : RdQ) (h : k < l.length) : optQ f l[k]? q = f l[k] q := by rw [List.getElem?_eq_getElem h]; rfl

def roundQ (rows : List (List UInt8)) (flags : List Bool) (nums : List Int) (texts : List ByteArray) (k : Nat) (q : RdQ) : RdQ :=
  optQ textQ texts[k]? (optQ numQ nums[k]? (optQ flagQ flags[k]? (optQ rowQ rows[k]? q)))
def roundsQ (rows : List (List UInt8)) (flags : List Bool) (nums : List Int) (texts : List ByteArray) : Nat → RdQ → RdQ
  | 0, q => q
  | k + 1, q => roundQ rows flags nums texts k (roundsQ rows flags nums texts k q)

end Go.Proofs.Ytgmcjfjdjnoljaa
