/- Rulings in plain Lean: a book as bytes is read as it was; the first verdict stands. -/
import Derived.Test.YtgmcjfjdjnoljaaRul
namespace Go.Proofs.Ytgmcjfjdjnoljaa
open Go Go.RowKit

theorem rdNum_of (m : Int) (n : Nat) (r : List UInt8) (h : (n : Int) ≤ m) (ht : n ≤ topN) : rdNum m (some (enc n ++ r)) = ((n : Int), some r) := rdNum_ok m (decN_of_enc n r ht) (by omega)
theorem rdRow_of (m : Int) (s r : List UInt8) (h : (s.length : Int) ≤ m) (ht : s.length ≤ topN) : rdRow m (some (rowB s ++ r)) = (s, some r) := by
  unfold rowB
  rw [List.append_assoc, rdRow_some (rdNum_of m s.length (s ++ r) h ht), if_neg (by simp), List.take_left, List.drop_left]
theorem rdFlag_of (b : Bool) (r : List UInt8) : rdFlag (some (flagB b ++ r)) = (b, some r) := by cases b <;> rfl
theorem verOk_parts {v : Ver} (h : verOk v = true) : nmOk v.1 ∧ (1 ≤ v.2.2.1 ∧ v.2.2.1 ≤ 1073741824) ∧ v.2.2.2.length ≤ 6 ∧ (v.2.1 = true ∨ v.2.2.2 = []) ∧ ∀ r ∈ v.2.2.2, rdgOk r = true := by
  unfold verOk at h
  simp only [Bool.and_eq_true, Bool.or_eq_true, decide_eq_true_eq, List.all_eq_true, List.length_eq_zero_iff] at h
  exact ⟨h.1, h.2.1, h.2.2.1, h.2.2.2.1, h.2.2.2.2⟩
theorem rdgOk_len {r : Rdg} (h : rdgOk r = true) : r.1.length ≤ 20 ∧ r.2.2.length ≤ 20 := by
  unfold rdgOk keyOk at h
  simp only [Bool.and_eq_true, Bool.or_eq_true, decide_eq_true_eq] at h
  exact ⟨h.1.1.2, h.2.1⟩
theorem rdRdg_of {x : Rdg} (h : rdgOk x = true) (r : List UInt8) : rdRdg (some (rdgB x ++ r)) = (x, some r) := by
  obtain ⟨h1, h2⟩ := rdgOk_len h
  unfold rdRdg rdgB
  simp only [List.append_assoc]
  rw [rdRow_of 20 x.1 _ (by omega) (by unfold topN; omega)]
  simp only
  rw [rdFlag_of]
  simp only
  rw [rdRow_of 20 x.2.2 _ (by omega) (by unfold topN; omega)]
theorem rdRdgs_of (l : List Rdg) (h : ∀ x ∈ l, rdgOk x = true) (r : List UInt8) (k : Nat) (hk : k ≤ l.length) : rdRdgs k (some (rdgsB l ++ r)) = (l.take k, some (rdgsB (l.drop k) ++ r)) := by
  induction k with
  | zero => rfl
  | succ k ih =>
    have hlt : k < l.length := hk
    have e : rdgsB (l.drop k) ++ r = rdgB l[k] ++ (rdgsB (l.drop (k + 1)) ++ r) := by
      unfold rdgsB
      rw [List.drop_eq_getElem_cons hlt, List.map_cons, List.flatten_cons, List.append_assoc]
    rw [rdRdgs, ih (by omega), e]
    simp only
    rw [rdRdg_of (h _ (List.getElem_mem hlt)), List.take_succ_eq_append_getElem hlt]
theorem encAll3 (a b c : Int) : encAll [a, b, c] = enc a.toNat ++ (enc b.toNat ++ enc c.toNat) := by simp [encAll]
theorem rdVer_of {v : Ver} (h : verOk v = true) (r : List UInt8) : rdVer (some (verB v ++ r)) = (v, some r) := by
  obtain ⟨⟨n1, n2, n3, n4⟩, ⟨a1, a2⟩, hl, _, hr⟩ := verOk_parts h
  have e : rdVerN (some (verB v ++ r)) = ((v.1.1, v.1.2, v.2.2.1, v.2.1, (v.2.2.2.length : Int)), some (rdgsB v.2.2.2 ++ r)) := by
    unfold rdVerN verB
    rw [encAll3]
    simp only [List.append_assoc]
    rw [rdNum_of _ _ _ (by omega) (by unfold topN; omega)]
    simp only
    rw [rdNum_of _ _ _ (by omega) (by unfold topN; omega)]
    simp only
    rw [rdNum_of _ _ _ (by omega) (by unfold topN; omega)]
    simp only
    rw [rdFlag_of]
    simp only
    rw [rdNum_of _ _ _ (by omega) (by unfold topN; omega)]
    simp only
    rw [Int.toNat_of_nonneg (by omega), Int.toNat_of_nonneg (by omega), Int.toNat_of_nonneg (by omega)]
  unfold rdVer
  rw [e]
  simp only [Int.toNat_natCast]
  rw [rdRdgs_of _ hr r _ (Nat.le_refl _), List.take_length, List.drop_length]
  rfl
theorem BookOk.take {l : List Ver} (h : BookOk l) (k : Nat) : BookOk (l.take k) :=
  ⟨fun v hv => h.1 v (List.mem_of_mem_take hv), h.2.1.sublist (List.take_sublist _ _), h.2.2.sublist (List.take_sublist _ _)⟩
theorem take_ahead {l : List Ver} (h : BookOk l) (k : Nat) (hk : k < l.length) : findV l[k].1 (l.take k) = none ∧ ¬ l[k].2.2.1 ≤ lastAt (l.take k) := by
  have hs : l.take (k + 1) = l.take k ++ [l[k]] := List.take_succ_eq_append_getElem hk
  have h1 := h.take (k + 1)
  rw [hs] at h1
  have h2 := List.pairwise_append.1 h1.2.1
  have h3 := List.pairwise_append.1 h1.2.2
  refine ⟨findV_none.2 fun v hv => h3.2.2 v hv _ (by simp), ?_⟩
  rcases List.eq_nil_or_concat (l.take k) with he | ⟨m, y, he⟩
  · rw [he]
    have := (verOk_parts (h.1 _ (List.getElem_mem hk))).2.1
    simp [lastAt]
    omega
  · rw [he, List.concat_eq_append, lastAt_snoc]
    have := h2.2.2 y (by rw [he]; simp) l[k] (by simp)
    omega
/-- A book's verdicts, decided one behind the other, are the book. -/
theorem decV_take {l : List Ver} (h : BookOk l) (k : Nat) (hk : k < l.length) : decV (l.take k) l[k] = (l[k], 0, l.take (k + 1)) := by
  obtain ⟨h1, h2⟩ := take_ahead h k hk
  rw [decV_new (h.1 _ (List.getElem_mem hk)) h1 h2, List.take_succ_eq_append_getElem hk]
theorem bkN_of (l : List Ver) (h : BookOk l) (k : Nat) (hk : k ≤ l.length) : bkN k (some ([], some (versB l))) = some (l.take k, some (versB (l.drop k))) := by
  induction k with
  | zero => rfl
  | succ k ih =>
    have hlt : k < l.length := hk
    have e : versB (l.drop k) = verB l[k] ++ versB (l.drop (k + 1)) := by
      unfold versB
      rw [List.drop_eq_getElem_cons hlt, List.map_cons, List.flatten_cons]
    have hv := rdVer_of (h.1 _ (List.getElem_mem hlt)) (versB (l.drop (k + 1)))
    have hd := decV_take h k hlt
    rw [bkN, ih (by omega), e, bkStep_yes (by rw [hv]; exact (take_ahead h k hlt).1) (by rw [hv]; simp) (by rw [hv, hd]), hv, hd]
theorem rdBook_of (l : List Ver) (h : BookOk l) (hl : l.length ≤ 1073741824) : rdBook (some (bookB l)) = some (l, some []) := by
  unfold rdBook bookB
  rw [rdNum_of _ _ _ (by omega) (by unfold topN; omega)]
  simp only [Int.toNat_natCast]
  rw [bkN_of l h _ (Nat.le_refl _), List.take_length, List.drop_length]
  rfl
end Go.Proofs.Ytgmcjfjdjnoljaa
