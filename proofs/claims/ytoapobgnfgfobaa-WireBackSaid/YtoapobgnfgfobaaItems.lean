/- WireBack in plain Lean: things written one behind the other are read so; nothing of one byte less. -/
import Derived.Test.YtoapobgnfgfobaaRdQ
namespace Go.Proofs.Ytoapobgnfgfobaa
open Go Go.RowKit

inductive Item where
  | row (b : List UInt8)
  | flag (b : Bool)
  | num (n : Int)
  | text (t : ByteArray)
def Item.q : Item → RdQ → RdQ
  | .row b => rowQ b
  | .flag b => flagQ b
  | .num n => numQ n
  | .text t => textQ t
def Item.w : Item → Wr → Wr
  | .row b => wrRow b
  | .flag b => wrFlag b
  | .num n => wrNum n
  | .text t => wrRow t.data.toList
def Item.b : Item → List UInt8
  | .row b => enc b.length ++ b
  | .flag b => [if b then 1 else 0]
  | .num n => enc n.toNat
  | .text t => enc t.size ++ t.data.toList
/-- What may be written. -/
def Item.fine : Item → Prop
  | .row b => b.length ≤ topN
  | .flag _ => True
  | .num n => Right n
  | .text t => t.size ≤ topN
def optI {α : Type} (f : α → Item) (x : Option α) : List Item := match x with | none => [] | some a => [f a]
def roundI (rows : List (List UInt8)) (flags : List Bool) (nums : List Int) (texts : List ByteArray) (k : Nat) : List Item :=
  optI .row rows[k]? ++ optI .flag flags[k]? ++ optI .num nums[k]? ++ optI .text texts[k]?
def allI (rows : List (List UInt8)) (flags : List Bool) (nums : List Int) (texts : List ByteArray) : Nat → List Item
  | 0 => []
  | k + 1 => allI rows flags nums texts k ++ roundI rows flags nums texts k
def foldQ (l : List Item) (q : RdQ) : RdQ := l.foldl (fun q i => i.q q) q
def foldW (l : List Item) (s : Wr) : Wr := l.foldl (fun s i => i.w s) s
def bytesI (l : List Item) : List UInt8 := (l.map Item.b).flatten

theorem foldQ_append (l m : List Item) (q : RdQ) : foldQ (l ++ m) q = foldQ m (foldQ l q) := List.foldl_append
theorem foldW_append (l m : List Item) (q : Wr) : foldW (l ++ m) q = foldW m (foldW l q) := List.foldl_append
theorem optQ_fold {α : Type} (f : α → Item) (g : α → RdQ → RdQ) (h : ∀ a, (f a).q = g a) (x : Option α) (q : RdQ) : optQ g x q = foldQ (optI f x) q := by
  cases x with
  | none => rfl
  | some a => simp [optQ, optI, foldQ, h]
theorem roundQ_fold (rows : List (List UInt8)) (flags : List Bool) (nums : List Int) (texts : List ByteArray) (k : Nat) (q : RdQ) : roundQ rows flags nums texts k q = foldQ (roundI rows flags nums texts k) q := by
  unfold roundQ roundI
  rw [foldQ_append, foldQ_append, foldQ_append, optQ_fold .row rowQ (fun _ => rfl), optQ_fold .flag flagQ (fun _ => rfl), optQ_fold .num numQ (fun _ => rfl), optQ_fold .text textQ (fun _ => rfl)]
theorem roundsQ_fold (rows : List (List UInt8)) (flags : List Bool) (nums : List Int) (texts : List ByteArray) (k : Nat) (q : RdQ) : roundsQ rows flags nums texts k q = foldQ (allI rows flags nums texts k) q := by
  induction k with
  | zero => rfl
  | succ k ih => rw [roundsQ, allI, foldQ_append, ← ih, roundQ_fold]

theorem bytes_size' (s : ByteArray) : s.data.toList.length = s.size := rfl
theorem Item.b_ne (i : Item) : i.b ≠ [] := by
  cases i <;> simp [Item.b, enc_ne]
theorem rdRow_enc (b r : List UInt8) (h : b.length ≤ topN) : rdRow (b.length : Nat) (some (enc b.length ++ b ++ r)) = (b, some r) := by
  have hd := decN_of_enc b.length (b ++ r) h
  rw [← List.append_assoc] at hd
  rw [rdRow_some (rdNum_ok _ hd (by omega)), if_neg (by simp)]
  simp
theorem Item.q_b (i : Item) (h : i.fine) (r : List UInt8) (ok : Bool) : i.q (ok, some (i.b ++ r)) = (ok, some r) := by
  cases i with
  | row b =>
    show rowQ b _ = _
    simp only [Item.b]
    unfold rowQ
    rw [rdRow_enc b r h]
    simp
  | flag b =>
    show flagQ b _ = _
    cases b <;> simp [flagQ, Item.b, rdFlag]
  | num n =>
    show numQ n _ = _
    have hn : (n.toNat : Int) = n := Int.toNat_of_nonneg h.1
    have hd := decN_of_enc n.toNat r (by have := h.2; omega)
    unfold numQ Item.b
    simp only
    rw [rdNum_ok n hd (by omega), hn]
    simp
  | text t =>
    show textQ t _ = _
    have hr := rdRow_enc t.data.toList r (by rw [bytes_size']; exact h)
    rw [bytes_size'] at hr
    simp only [Item.b]
    unfold textQ
    simp only
    rw [hr, ByteArray.toList_eq]
    simp
theorem foldQ_bytes (l : List Item) (h : ∀ i ∈ l, i.fine) (r : List UInt8) (ok : Bool) : foldQ l (ok, some (bytesI l ++ r)) = (ok, some r) := by
  induction l generalizing ok with
  | nil => simp [foldQ, bytesI]
  | cons i l ih =>
    have e : bytesI (i :: l) ++ r = i.b ++ (bytesI l ++ r) := by simp [bytesI]
    rw [e]
    show foldQ l (i.q (ok, some (i.b ++ (bytesI l ++ r)))) = _
    rw [i.q_b (h i (by simp)), ih (fun j hj => h j (by simp [hj]))]

/-- A row of which a byte lacks is none. -/
theorem rdRow_less (b : List UInt8) (h : b.length ≤ topN) : (rdRow (b.length : Nat) (some (enc b.length ++ b).dropLast)).2 = none := by
  by_cases hb : b = []
  · subst hb
    have e : (enc 0 ++ ([] : List UInt8)).dropLast = [] := by decide
    show (rdRow (0 : Nat) (some (enc 0 ++ ([] : List UInt8)).dropLast)).2 = none
    rw [e]; decide
  · have e : (enc b.length ++ b).dropLast = enc b.length ++ b.dropLast := List.dropLast_append_of_ne_nil hb
    rw [e, rdRow_some (rdNum_ok _ (decN_of_enc b.length b.dropLast h) (by omega)), if_pos]
    rw [List.length_dropLast]
    have : 0 < b.length := by cases b with | nil => exact (hb rfl).elim | cons _ _ => simp
    omega
theorem decN_less (n : Nat) : decN (enc n).dropLast = none := by
  unfold decN
  rw [List.dropLast_eq_take]
  have hne := enc_ne n
  have hl : (enc n).length - 1 < (encF 9 n).length := by
    have : 0 < (enc n).length := by cases h : enc n with | nil => exact (hne h).elim | cons _ _ => simp
    show (enc n).length - 1 < (enc n).length
    omega
  show (match decF 9 true ((encF 9 n).take ((enc n).length - 1)) with | none => none | some (n, r) => if topN < n then none else some (n, r)) = none
  rw [decF_less 9 true n _ hl]
theorem Item.q_less (i : Item) (h : i.fine) (ok : Bool) : (i.q (ok, some i.b.dropLast)).2 = none := by
  cases i with
  | row b => exact rdRow_less b h
  | flag b => cases b <;> rfl
  | num n =>
    show (rdNum n (some (enc n.toNat).dropLast)).2 = none
    rw [rdNum_none n (decN_less n.toNat)]
  | text t =>
    have := rdRow_less t.data.toList (by rw [bytes_size']; exact h)
    rw [bytes_size'] at this
    exact this
theorem foldQ_less (l : List Item) (h : ∀ i ∈ l, i.fine) (hne : bytesI l ≠ []) (ok : Bool) : (foldQ l (ok, some (bytesI l).dropLast)).2 = none := by
  have hl : l ≠ [] := by rintro rfl; exact hne rfl
  obtain ⟨m, i, rfl⟩ : ∃ m i, l = m ++ [i] := ⟨l.dropLast, l.getLast hl, (List.dropLast_concat_getLast hl).symm⟩
  have e : bytesI (m ++ [i]) = bytesI m ++ i.b := by simp [bytesI]
  rw [e, List.dropLast_append_of_ne_nil i.b_ne, foldQ_append, foldQ_bytes m (fun j hj => h j (by simp [hj]))]
  exact i.q_less (h i (by simp)) ok
theorem foldW_bytes (l : List Item) (h : ∀ i ∈ l, i.fine) (s : Wr) : foldW l s = ⟨s.ok, s.bs ++ bytesI l⟩ := by
  induction l generalizing s with
  | nil => simp [foldW, bytesI]
  | cons i l ih =>
    have hi : i.w s = ⟨s.ok, s.bs ++ i.b⟩ := by
      have hf := h i (by simp)
      cases i with
      | row b => rfl
      | flag b => cases b <;> rfl
      | num n =>
        show wrNum n s = _
        unfold wrNum
        rw [if_neg (by unfold Item.fine Right at hf; omega)]
        rfl
      | text t => show wrRow t.data.toList s = _; unfold wrRow Item.b; rw [bytes_size']
    show foldW l (i.w s) = _
    rw [hi, ih (fun j hj => h j (by simp [hj]))]
    simp [bytesI]
end Go.Proofs.Ytoapobgnfgfobaa
