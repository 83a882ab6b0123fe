/- WireBack in plain Lean: what was written in that order, told of all its items. -/
import Derived.Test.YtoapobgnfgfobaaItems
namespace Go.Proofs.Ytoapobgnfgfobaa
open Go Go.RowKit

theorem mem_optI {α : Type} {f : α → Item} {l : List α} {k : Nat} {x : Item} (h : x ∈ optI f l[k]?) : ∃ a ∈ l, x = f a := by
  cases e : l[k]? with
  | none => rw [e] at h; simp [optI] at h
  | some a =>
    rw [e] at h
    obtain rfl : x = f a := by simpa [optI] using h
    exact ⟨a, List.mem_of_getElem? e, rfl⟩
theorem mem_allI {rows : List (List UInt8)} {flags : List Bool} {nums : List Int} {texts : List ByteArray} {n : Nat} {x : Item} (h : x ∈ allI rows flags nums texts n) :
    (∃ a ∈ rows, x = .row a) ∨ (∃ a ∈ flags, x = .flag a) ∨ (∃ a ∈ nums, x = .num a) ∨ (∃ a ∈ texts, x = .text a) := by
  induction n with
  | zero => simp [allI] at h
  | succ n ih =>
    simp only [allI, roundI, List.mem_append] at h
    rcases h with h | ((h | h) | h) | h
    · exact ih h
    · exact .inl (mem_optI h)
    · exact .inr (.inl (mem_optI h))
    · exact .inr (.inr (.inl (mem_optI h)))
    · exact .inr (.inr (.inr (mem_optI h)))
theorem num_mem_allI {rows : List (List UInt8)} {flags : List Bool} {nums : List Int} {texts : List ByteArray} {i n : Nat} (hi : i < nums.length) (h : i < n) : Item.num nums[i] ∈ allI rows flags nums texts n := by
  induction n with
  | zero => omega
  | succ n ih =>
    rw [allI, List.mem_append]
    rcases Nat.lt_or_ge i n with h1 | h1
    · exact .inl (ih h1)
    · obtain rfl : i = n := by omega
      right
      simp [roundI, optI, hi]

theorem Item.w_ok (i : Item) (s : Wr) (h : s.ok = false) : (i.w s).ok = false := by
  cases i with
  | num n => show (wrNum n s).ok = false; unfold wrNum; split <;> simp [h]
  | row b => exact h
  | flag b => exact h
  | text b => exact h
theorem foldW_off (l : List Item) (s : Wr) (h : s.ok = false) : (foldW l s).ok = false := by
  induction l generalizing s with
  | nil => exact h
  | cons i l ih => exact ih _ (i.w_ok s h)
theorem foldW_bad (l : List Item) (s : Wr) (n : Int) (h : Item.num n ∈ l) (hn : ¬ Right n) : (foldW l s).ok = false := by
  obtain ⟨l1, l2, rfl⟩ := List.append_of_mem h
  rw [foldW_append]
  refine foldW_off l2 _ ?_
  show (wrNum n _).ok = false
  unfold wrNum
  rw [if_pos (by unfold Right at hn; omega)]

/-- How long an item's data is. -/
def Item.size : Item → Nat
  | .row b => b.length
  | .flag _ => 0
  | .num _ => 0
  | .text t => t.size
theorem Item.w_len (i : Item) (s : Wr) : (i.w s).bs.length ≤ s.bs.length + 10 + i.size := by
  cases i with
  | row b =>
    show (wrRow b s).bs.length ≤ _
    have := enc_len b.length
    simp only [wrRow, Item.size, List.length_append]; omega
  | flag b => show (wrFlag b s).bs.length ≤ _; simp [wrFlag]; omega
  | num n =>
    show (wrNum n s).bs.length ≤ _
    have := enc_len n.toNat
    unfold wrNum
    split
    · simp; omega
    · simp only [List.length_append]; omega
  | text t =>
    show (wrRow t.data.toList s).bs.length ≤ _
    have := enc_len t.data.toList.length
    have e : t.data.toList.length = t.size := rfl
    simp only [wrRow, Item.size, List.length_append]; omega
theorem foldW_len (l : List Item) (s : Wr) (M : Nat) (h : ∀ i ∈ l, i.size ≤ M) : (foldW l s).bs.length ≤ s.bs.length + l.length * (10 + M) := by
  induction l generalizing s with
  | nil => simp [foldW]
  | cons i l ih =>
    have h1 := ih (i.w s) (fun j hj => h j (by simp [hj]))
    have h2 := i.w_len s
    have h3 := h i (by simp)
    show (foldW l (i.w s)).bs.length ≤ _
    rw [List.length_cons, Nat.add_mul]
    omega
theorem optI_len {α : Type} (f : α → Item) (x : Option α) : (optI f x).length ≤ 1 := by cases x <;> simp [optI]
theorem allI_len (rows : List (List UInt8)) (flags : List Bool) (nums : List Int) (texts : List ByteArray) (n : Nat) : (allI rows flags nums texts n).length ≤ 4 * n := by
  induction n with
  | zero => simp [allI]
  | succ n ih =>
    have h1 := optI_len Item.row rows[n]?
    have h2 := optI_len Item.flag flags[n]?
    have h3 := optI_len Item.num nums[n]?
    have h4 := optI_len Item.text texts[n]?
    simp only [allI, roundI, List.length_append]
    omega
theorem all_size {rows : List (List UInt8)} {flags : List Bool} {nums : List Int} {texts : List ByteArray} {M : Nat} (ht : ∀ t ∈ texts, t.size ≤ M) (hr : ∀ t ∈ rows, t.length ≤ M) {n : Nat} : ∀ i ∈ allI rows flags nums texts n, i.size ≤ M := fun i hi => by
  rcases mem_allI hi with ⟨a, h, rfl⟩ | ⟨a, h, rfl⟩ | ⟨a, h, rfl⟩ | ⟨a, h, rfl⟩
  · exact hr a h
  · exact Nat.zero_le _
  · exact Nat.zero_le _
  · exact ht a h
theorem all_len {rows : List (List UInt8)} {flags : List Bool} {nums : List Int} {texts : List ByteArray} (ht : ∀ t ∈ texts, t.size ≤ 20000) (hr : ∀ t ∈ rows, t.length ≤ 20000) {n : Nat} (hn : n ≤ 20000) :
    (foldW (allI rows flags nums texts n) ⟨true, []⟩).bs.length ≤ 2000000000 := by
  have h1 := foldW_len (allI rows flags nums texts n) ⟨true, []⟩ 20000 (all_size ht hr)
  have h2 := allI_len rows flags nums texts n
  have h3 : (allI rows flags nums texts n).length * (10 + 20000) ≤ 80000 * (10 + 20000) := Nat.mul_le_mul_right _ (by omega)
  have h4 : (⟨true, []⟩ : Wr).bs.length = 0 := rfl
  omega
theorem all_fine {rows : List (List UInt8)} {flags : List Bool} {nums : List Int} {texts : List ByteArray} (ht : ∀ t ∈ texts, t.size ≤ 20000) (hr : ∀ t ∈ rows, t.length ≤ 20000) (hn : ∀ n ∈ nums, Right n) {n : Nat} : ∀ i ∈ allI rows flags nums texts n, i.fine := fun i hi => by
  rcases mem_allI hi with ⟨a, h, rfl⟩ | ⟨a, h, rfl⟩ | ⟨a, h, rfl⟩ | ⟨a, h, rfl⟩
  · have := hr a h; show _ ≤ topN; unfold topN; omega
  · trivial
  · exact hn a h
  · have := ht a h; show _ ≤ topN; unfold topN; omega

/-- What WireBack asks of the bytes, where all numbers are right. -/
theorem back_reads {rows : List (List UInt8)} {flags : List Bool} {nums : List Int} {texts : List ByteArray} (ht : ∀ t ∈ texts, t.size ≤ 20000) (hr : ∀ t ∈ rows, t.length ≤ 20000) (hn : ∀ n ∈ nums, Right n) (n : Nat) :
    ∃ b : List UInt8, foldW (allI rows flags nums texts n) ⟨true, []⟩ = ⟨true, b⟩ ∧ roundsQ rows flags nums texts n (true, some b) = (true, some []) ∧
      (∀ x, roundsQ rows flags nums texts n (true, some (b ++ [x])) = (true, some [x])) ∧ (b ≠ [] → (roundsQ rows flags nums texts n (true, some b.dropLast)).2 = none) := by
  have hf := all_fine (flags := flags) ht hr hn (n := n)
  refine ⟨bytesI (allI rows flags nums texts n), by rw [foldW_bytes _ hf]; rfl, ?_, fun x => ?_, fun hb => ?_⟩
  · rw [roundsQ_fold]
    have := foldQ_bytes _ hf [] true
    rwa [List.append_nil] at this
  · rw [roundsQ_fold]
    exact foldQ_bytes _ hf [x] true
  · rw [roundsQ_fold]
    exact foldQ_less _ hf hb true

/-- How long the first of a list are. -/
def sumUpto {α : Type} (f : α → Nat) (l : List α) (k : Nat) : Nat := ((l.take k).map f).sum
theorem sumUpto_succ {α : Type} (f : α → Nat) (l : List α) (k : Nat) (h : k < l.length) : sumUpto f l (k + 1) = sumUpto f l k + f l[k] := by
  unfold sumUpto
  rw [List.take_succ_eq_append_getElem h, List.map_append, List.sum_append]
  simp only [List.map_cons, List.map_nil, List.sum_cons, List.sum_nil, Nat.add_zero]
theorem le_sum {α : Type} (f : α → Nat) (l : List α) : ∀ x ∈ l, f x ≤ (l.map f).sum := by
  induction l with
  | nil => simp
  | cons y l ih =>
    intro x hx
    rw [List.map_cons, List.sum_cons]
    rcases List.mem_cons.1 hx with rfl | h
    · omega
    · have := ih x h; omega
theorem sumUpto_all {α : Type} (f : α → Nat) (l : List α) : sumUpto f l l.length = (l.map f).sum := by unfold sumUpto; rw [List.take_length]
end Go.Proofs.Ytoapobgnfgfobaa
