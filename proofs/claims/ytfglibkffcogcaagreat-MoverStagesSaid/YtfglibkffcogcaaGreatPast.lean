/- The past in plain Lean: names, a past of eight numbers, raising and merging. -/
import Derived.WalkKit
namespace Go.Proofs.YtfglibkffcogcaaGreat
open Go Go.RowKit

/-- A name: the client's number, and its own. -/
abbrev Nm := Int × Int
def nmOk (x : Nm) : Prop := 1 ≤ x.1 ∧ x.1 ≤ 8 ∧ 1 ≤ x.2 ∧ x.2 ≤ 1073741824
instance (x : Nm) : Decidable (nmOk x) := by unfold nmOk; infer_instance
/-- The eight clients' numbers. -/
abbrev Pst := List Int
def pNew : Pst := List.replicate 8 0
def pOf (p : Pst) (c : Int) : Int := if c < 1 ∨ 8 < c then 0 else p.getD (c - 1).toNat 0
def pSet (p : Pst) (i : Nat) (v : Int) : Pst := p.set i (max (p.getD i 0) v)
def pRaise1 (p : Pst) (x : Nm) : Pst := pSet p (x.1 - 1).toNat x.2
def pRaise (p : Pst) (l : List Nm) : Pst := l.foldl pRaise1 p
/-- Merged with the first k numbers of another. -/
def pMergeK (q : Pst) : Nat → Pst → Pst
  | 0, p => p
  | k + 1, p => pSet (pMergeK q k p) k (q.getD k 0)
def pMerge1 (p q : Pst) : Pst := pMergeK q 8 p
def pMerge (p : Pst) (l : List Pst) : Pst := l.foldl pMerge1 p
def pIs (p : Pst) (x : Nm) : Bool := decide (nmOk x) && decide (x.2 ≤ pOf p x.1)
/-- A past's numbers are right. -/
def PstOk (p : Pst) : Prop := p.length = 8 ∧ ∀ n ∈ p, 0 ≤ n ∧ n ≤ 1073741824

theorem pSet_len (p : Pst) (i : Nat) (v : Int) : (pSet p i v).length = p.length := by simp [pSet]
theorem pRaise_len (p : Pst) (l : List Nm) : (pRaise p l).length = p.length := by
  unfold pRaise
  induction l generalizing p with
  | nil => rfl
  | cons x l ih => rw [List.foldl_cons, ih, pRaise1, pSet_len]
theorem pMergeK_len (q : Pst) (k : Nat) (p : Pst) : (pMergeK q k p).length = p.length := by
  induction k with
  | zero => rfl
  | succ k ih => rw [pMergeK, pSet_len, ih]
theorem pMerge_len (p : Pst) (l : List Pst) : (pMerge p l).length = p.length := by
  unfold pMerge
  induction l generalizing p with
  | nil => rfl
  | cons q l ih => rw [List.foldl_cons, ih, pMerge1, pMergeK_len]
theorem pSet_getD (p : Pst) (i j : Nat) (v : Int) (hi : i < p.length) : (pSet p i v).getD j 0 = if i = j then max (p.getD i 0) v else p.getD j 0 := by
  unfold pSet
  simp only [List.getD_eq_getElem?_getD, List.getElem?_set]
  by_cases h : i = j
  · subst h; simp [hi]
  · simp [h]
theorem pMergeK_getD (q : Pst) (k : Nat) (p : Pst) (hk : k ≤ p.length) : ∀ j : Nat, (pMergeK q k p).getD j 0 = if j < k then max (p.getD j 0) (q.getD j 0) else p.getD j 0 := by
  induction k with
  | zero => intro j; simp [pMergeK]
  | succ k ih =>
    intro j
    rw [pMergeK, pSet_getD _ _ _ _ (by rw [pMergeK_len]; omega), ih (by omega), ih (by omega)]
    by_cases h : k = j
    · subst h; rw [if_pos rfl, if_neg (by omega), if_pos (by omega)]
    · rw [if_neg h]
      by_cases h2 : j < k
      · rw [if_pos h2, if_pos (by omega)]
      · rw [if_neg h2, if_neg (by omega)]
theorem pMerge1_of (p q : Pst) (hp : p.length = 8) (c : Int) : pOf (pMerge1 p q) c = max (pOf p c) (pOf q c) := by
  unfold pOf pMerge1
  by_cases h : c < 1 ∨ 8 < c
  · rw [if_pos h, if_pos h, if_pos h]; rfl
  · rw [if_neg h, if_neg h, if_neg h, pMergeK_getD _ _ _ (by omega), if_pos (by omega)]
/-- The greatest number of a client among names, or m. -/
def topOf (c : Int) (l : List Nm) (m : Int) : Int := l.foldl (fun m x => if x.1 = c then max m x.2 else m) m
theorem pRaise_of (p : Pst) (hp : p.length = 8) (l : List Nm) (hl : ∀ x ∈ l, nmOk x) (c : Int) (hc : 1 ≤ c ∧ c ≤ 8) : pOf (pRaise p l) c = topOf c l (pOf p c) := by
  unfold pRaise topOf
  induction l generalizing p with
  | nil => rfl
  | cons x l ih =>
    have hx := hl x (by simp)
    rw [List.foldl_cons, List.foldl_cons, ih (pRaise1 p x) (by rw [pRaise1, pSet_len, hp]) (fun y hy => hl y (by simp [hy]))]
    congr 1
    unfold nmOk at hx
    have hn : ¬ (c < 1 ∨ 8 < c) := by omega
    unfold pOf pRaise1
    rw [if_neg hn, if_neg hn, pSet_getD _ _ _ _ (by omega)]
    by_cases h : x.1 = c
    · rw [if_pos h, if_pos (by rw [h]), h]
    · rw [if_neg h, if_neg (by omega)]
theorem topOf_le (c : Int) (l : List Nm) (m : Int) : m ≤ topOf c l m := by
  unfold topOf
  induction l generalizing m with
  | nil => exact Int.le_refl _
  | cons x l ih =>
    rw [List.foldl_cons]
    refine Int.le_trans ?_ (ih _)
    split
    · exact Int.le_max_left _ _
    · exact Int.le_refl _
theorem topOf_max (c : Int) (l : List Nm) (m : Int) (hm : 0 ≤ m) (hl : ∀ x ∈ l, nmOk x) : topOf c l m = max m (topOf c l 0) := by
  unfold topOf
  induction l generalizing m with
  | nil => simp only [List.foldl_nil]; omega
  | cons x l ih =>
    have hx := hl x (by simp)
    unfold nmOk at hx
    have hl' : ∀ y ∈ l, nmOk y := fun y hy => hl y (by simp [hy])
    rw [List.foldl_cons, List.foldl_cons]
    split
    · rw [ih _ (by omega) hl', ih (max 0 x.2) (by omega) hl']
      omega
    · rw [ih m hm hl']
theorem topOf_append (c : Int) (l k : List Nm) (hk : ∀ x ∈ k, nmOk x) : topOf c (l ++ k) 0 = max (topOf c l 0) (topOf c k 0) := by
  have h0 := topOf_le c l 0
  rw [← topOf_max c k (topOf c l 0) h0 hk]
  unfold topOf
  rw [List.foldl_append]
theorem topOf_mem (c : Int) (l : List Nm) (m : Int) (x : Nm) (h : x ∈ l) (hc : x.1 = c) : x.2 ≤ topOf c l m := by
  unfold topOf
  induction l generalizing m with
  | nil => simp at h
  | cons y l ih =>
    rw [List.foldl_cons]
    rcases List.mem_cons.1 h with rfl | h
    · rw [if_pos hc]
      exact Int.le_trans (Int.le_max_right _ _) (topOf_le c l _)
    · exact ih _ h
theorem pOf_new (c : Int) : pOf pNew c = 0 := by
  unfold pOf pNew
  split
  · rfl
  · rw [List.getD_eq_getElem?_getD, List.getElem?_replicate]
    split <;> rfl
/-- All are right. -/
def allOk (l : List Nm) : Bool := decide (∀ x ∈ l, nmOk x)
end Go.Proofs.YtfglibkffcogcaaGreat
