/- The past in plain Lean: the same past by whatever order; written and read. -/
import Derived.Test.YtfglibkffcogcaaGreatPast
import Derived.Test.YtfglibkffcogcaaGreatWire
namespace Go.Proofs.YtfglibkffcogcaaGreat
open Go Go.RowKit

theorem pst_ext {p q : Pst} (hp : p.length = 8) (hq : q.length = 8) (h : ∀ c : Int, 1 ≤ c ∧ c ≤ 8 → pOf p c = pOf q c) : p = q := by
  refine List.ext_getElem (by omega) fun i h1 h2 => ?_
  have := h ((i : Int) + 1) (by omega)
  unfold pOf at this
  rw [if_neg (by omega), if_neg (by omega)] at this
  have e : ((i : Int) + 1 - 1).toNat = i := by omega
  rw [e, List.getD_eq_getElem?_getD, List.getD_eq_getElem?_getD, List.getElem?_eq_getElem h1, List.getElem?_eq_getElem h2] at this
  exact this
theorem pNew_len : pNew.length = 8 := rfl
theorem pRaise8 (l : List Nm) : (pRaise pNew l).length = 8 := by rw [pRaise_len]; rfl
theorem pOf_raise (l : List Nm) (hl : ∀ x ∈ l, nmOk x) (c : Int) (hc : 1 ≤ c ∧ c ≤ 8) : pOf (pRaise pNew l) c = topOf c l 0 := by
  rw [pRaise_of pNew pNew_len l hl c hc, pOf_new]
theorem grows_turn (c : Int) (a b : List Nm) (k : Nat) (ha : ∀ x ∈ a, nmOk x) :
    topOf c ((b ++ a.drop k) ++ a.take k) 0 = max (topOf c b 0) (topOf c a 0) := by
  have h1 : ∀ x ∈ a.drop k, nmOk x := fun x hx => ha x (List.mem_of_mem_drop hx)
  have h2 : ∀ x ∈ a.take k, nmOk x := fun x hx => ha x (List.mem_of_mem_take hx)
  rw [topOf_append c _ _ h2, topOf_append c _ _ h1]
  have h3 : topOf c a 0 = max (topOf c (a.take k) 0) (topOf c (a.drop k) 0) := by
    rw [← topOf_append c _ _ h1, List.take_append_drop]
  omega
theorem turned_ok {a b : List Nm} (k : Nat) (ha : ∀ x ∈ a, nmOk x) (hb : ∀ x ∈ b, nmOk x) : ∀ x ∈ (b ++ a.drop k) ++ a.take k, nmOk x := by
  intro x hx
  rcases List.mem_append.1 hx with hx | hx
  · rcases List.mem_append.1 hx with hx | hx
    · exact hb x hx
    · exact ha x (List.mem_of_mem_drop hx)
  · exact ha x (List.mem_of_mem_take hx)
theorem grows_p (a b : List Nm) (k : Nat) (ha : ∀ x ∈ a, nmOk x) (hb : ∀ x ∈ b, nmOk x) :
    pMerge (pRaise pNew a) [pRaise pNew b, pRaise pNew b] = pRaise pNew ((b ++ a.drop k) ++ a.take k) := by
  refine pst_ext (by rw [pMerge_len, pRaise8]) (pRaise8 _) fun c hc => ?_
  rw [pOf_raise _ (turned_ok k ha hb) c hc, grows_turn c a b k ha]
  unfold pMerge
  simp only [List.foldl_cons, List.foldl_nil]
  rw [pMerge1_of _ _ (by unfold pMerge1; rw [pMergeK_len, pRaise8]), pMerge1_of _ _ (pRaise8 _), pOf_raise a ha c hc, pOf_raise b hb c hc]
  omega
theorem grows_q (a b : List Nm) (k : Nat) (ha : ∀ x ∈ a, nmOk x) (hb : ∀ x ∈ b, nmOk x) :
    pMerge (pRaise pNew b) [pRaise pNew a] = pRaise pNew ((b ++ a.drop k) ++ a.take k) := by
  refine pst_ext (by rw [pMerge_len, pRaise8]) (pRaise8 _) fun c hc => ?_
  rw [pOf_raise _ (turned_ok k ha hb) c hc, grows_turn c a b k ha]
  unfold pMerge
  simp only [List.foldl_cons, List.foldl_nil]
  rw [pMerge1_of _ _ (pRaise8 _), pOf_raise a ha c hc, pOf_raise b hb c hc]
theorem grows_again (a b : List Nm) (k : Nat) (ha : ∀ x ∈ a, nmOk x) (hb : ∀ x ∈ b, nmOk x) :
    pRaise (pRaise pNew ((b ++ a.drop k) ++ a.take k)) a = pRaise pNew ((b ++ a.drop k) ++ a.take k) := by
  refine pst_ext (by rw [pRaise_len, pRaise8]) (pRaise8 _) fun c hc => ?_
  rw [pRaise_of _ (pRaise8 _) a ha c hc, pOf_raise _ (turned_ok k ha hb) c hc, topOf_max c a _ (topOf_le c _ 0) ha, grows_turn c a b k ha]
  omega
theorem topOf_most (c : Int) (l : List Nm) (m : Int) (hm : m ≤ 1073741824) (hl : ∀ x ∈ l, nmOk x) : topOf c l m ≤ 1073741824 := by
  unfold topOf
  induction l generalizing m with
  | nil => exact hm
  | cons x l ih =>
    have hx := hl x (by simp)
    unfold nmOk at hx
    rw [List.foldl_cons]
    refine ih _ ?_ (fun y hy => hl y (by simp [hy]))
    split
    · omega
    · exact hm
theorem pRaise_ok (l : List Nm) (hl : ∀ x ∈ l, nmOk x) : PstOk (pRaise pNew l) := by
  refine ⟨pRaise8 l, fun n hn => ?_⟩
  obtain ⟨i, hi, rfl⟩ := List.mem_iff_getElem.1 hn
  have h8 := pRaise8 l
  have h := pOf_raise l hl ((i : Int) + 1) (by omega)
  unfold pOf at h
  rw [if_neg (by omega)] at h
  have e : ((i : Int) + 1 - 1).toNat = i := by omega
  rw [e, List.getD_eq_getElem?_getD, List.getElem?_eq_getElem hi] at h
  simp only [Option.getD_some] at h
  rw [h]
  exact ⟨topOf_le _ _ _, topOf_most _ _ _ (by omega) hl⟩
theorem PstOk.of {p : Pst} (h : PstOk p) (c : Int) : 0 ≤ pOf p c ∧ pOf p c ≤ 1073741824 := by
  unfold pOf
  split
  · omega
  · have hi : (c - 1).toNat < p.length := by rw [h.1]; omega
    rw [List.getD_eq_getElem?_getD, List.getElem?_eq_getElem hi]
    exact h.2 _ (List.getElem_mem hi)
theorem pIs_mem (l : List Nm) (hl : ∀ x ∈ l, nmOk x) (x : Nm) (hx : x ∈ l) : pIs (pRaise pNew l) x = true := by
  have h := hl x hx
  unfold pIs
  rw [decide_eq_true h, pOf_raise l hl x.1 ⟨h.1, h.2.1⟩, decide_eq_true (topOf_mem x.1 l 0 x hx rfl)]
  rfl
theorem pIs_over (p : Pst) (c : Int) : pIs p (c, pOf p c + 1) = false := by
  unfold pIs
  rw [decide_eq_false (show ¬ (pOf p c + 1 ≤ pOf p c) by omega)]
  simp
theorem pIs_at {p : Pst} (h : PstOk p) (c : Int) (h1 : 1 ≤ c) (h8 : c ≤ 8) (h0 : 0 < pOf p c) : pIs p (c, pOf p c) = true := by
  unfold pIs
  rw [decide_eq_true (show nmOk (c, pOf p c) from ⟨h1, h8, by show 1 ≤ pOf p c; omega, (h.of c).2⟩)]
  simp

/-- So many numbers read, one behind the other. -/
def rdNums (m : Int) : Nat → Rd → List Int × Rd
  | 0, s => ([], s)
  | k + 1, s => ((rdNums m k s).1 ++ [(rdNum m (rdNums m k s).2).1], (rdNum m (rdNums m k s).2).2)
theorem rdNums_len (m : Int) (k : Nat) (s : Rd) : (rdNums m k s).1.length = k := by
  induction k with
  | zero => rfl
  | succ k ih => simp [rdNums, ih]
theorem rdNums_enc (m : Int) (hm : m ≤ (topN : Int)) (l : List Int) (hl : ∀ n ∈ l, 0 ≤ n ∧ n ≤ m) (k : Nat) (hk : k ≤ l.length) : rdNums m k (some (encAll l)) = (l.take k, some (encAll (l.drop k))) := by
  induction k with
  | zero => rfl
  | succ k ih =>
    have hlt : k < l.length := hk
    rw [rdNums, ih (by omega), List.take_succ_eq_append_getElem hlt, List.drop_eq_getElem_cons hlt]
    have hx := hl _ (List.getElem_mem hlt)
    obtain ⟨v, hv⟩ : ∃ v : Nat, l[k] = (v : Int) := ⟨l[k].toNat, by omega⟩
    have he : encAll (l[k] :: l.drop (k + 1)) = enc v ++ encAll (l.drop (k + 1)) := by simp [encAll, hv]
    have hr : rdNum m (some (encAll (l[k] :: l.drop (k + 1)))) = ((v : Int), some (encAll (l.drop (k + 1)))) := by
      rw [he]
      exact rdNum_ok m (decN_of_enc v _ (by omega)) (by omega)
    simp only [hr]
    rw [hv]
theorem rdNums_past (p : Pst) (h : PstOk p) : rdNums 1073741824 8 (some (encAll p)) = (p, some []) := by
  rw [rdNums_enc _ (by unfold topN; omega) p h.2 8 (by rw [h.1]; omega), List.take_of_length_le (by rw [h.1]; omega), List.drop_eq_nil_of_le (by rw [h.1]; omega)]
  rfl
theorem PstOk.right {p : Pst} (h : PstOk p) : ∀ n ∈ p, Right n := fun n hn => by
  have := h.2 n hn
  unfold Right topN
  omega
theorem encAll_le (l : List Int) : (encAll l).length ≤ 9 * l.length := by
  unfold encAll
  induction l with
  | nil => simp
  | cons n l ih =>
    have := enc_len n.toNat
    simp only [List.map_cons, List.flatten_cons, List.length_append, List.length_cons]
    omega

/-- Raised, or not, where a name is wrong. -/
def raiseE (l : List Nm) : Int := if allOk l = true then 0 else 2
def raiseP (l : List Nm) (p : Pst) : Pst := if allOk l = true then pRaise p l else p
theorem raiseP_len (l : List Nm) (p : Pst) : (raiseP l p).length = p.length := by
  unfold raiseP
  split
  · exact pRaise_len p l
  · rfl
theorem pRaise_pst {p : Pst} (h : PstOk p) (l : List Nm) (hl : ∀ x ∈ l, nmOk x) : PstOk (pRaise p l) := by
  refine ⟨by rw [pRaise_len, h.1], fun n hn => ?_⟩
  obtain ⟨i, hi, rfl⟩ := List.mem_iff_getElem.1 hn
  have h8 : (pRaise p l).length = 8 := by rw [pRaise_len, h.1]
  have h2 := pRaise_of p h.1 l hl ((i : Int) + 1) (by omega)
  unfold pOf at h2
  rw [if_neg (by omega)] at h2
  have e : ((i : Int) + 1 - 1).toNat = i := by omega
  rw [e, List.getD_eq_getElem?_getD, List.getElem?_eq_getElem hi] at h2
  simp only [Option.getD_some] at h2
  rw [h2]
  have h3 := h.of ((i : Int) + 1)
  unfold pOf at h3
  rw [if_neg (by omega), e] at h3
  rw [if_neg (by omega)]
  exact ⟨Int.le_trans h3.1 (topOf_le _ _ _), topOf_most _ _ _ h3.2 hl⟩
theorem raiseP_ok {p : Pst} (h : PstOk p) (l : List Nm) : PstOk (raiseP l p) := by
  unfold raiseP
  split
  · rename_i hl
    exact pRaise_pst h l (of_decide_eq_true hl)
  · exact h
theorem pNew_ok : PstOk pNew := ⟨rfl, fun n hn => by
  have := List.eq_of_mem_replicate hn
  omega⟩
theorem pMerge1_pst {p q : Pst} (h : PstOk p) (hq : PstOk q) : PstOk (pMerge1 p q) := by
  have hl : (pMerge1 p q).length = 8 := by unfold pMerge1; rw [pMergeK_len, h.1]
  refine ⟨hl, fun n hn => ?_⟩
  obtain ⟨i, hi, rfl⟩ := List.mem_iff_getElem.1 hn
  have h2 := pMerge1_of p q h.1 ((i : Int) + 1)
  have h3 := h.of ((i : Int) + 1)
  have h4 := hq.of ((i : Int) + 1)
  have h5 : pOf (pMerge1 p q) ((i : Int) + 1) = (pMerge1 p q)[i] := by
    unfold pOf
    rw [if_neg (by omega)]
    have e : ((i : Int) + 1 - 1).toNat = i := by omega
    rw [e, List.getD_eq_getElem?_getD, List.getElem?_eq_getElem hi]
    rfl
  omega
theorem pMerge_pst {p : Pst} (h : PstOk p) (l : List Pst) (hl : ∀ q ∈ l, PstOk q) : PstOk (pMerge p l) := by
  unfold pMerge
  induction l generalizing p with
  | nil => exact h
  | cons q l ih => exact ih (pMerge1_pst h (hl q (by simp))) (fun x hx => hl x (by simp [hx]))
end Go.Proofs.YtfglibkffcogcaaGreat
