/- Several texts, laid one behind the other by merge.py: OrR OrS. -/
import Derived.Test.YtkjnlhidnkbelaaGreatDoorGr3
/- Orders and answers in plain Lean: what is put is got as it was; what is got of any bytes is put again as these. -/
namespace Go.Proofs.YtkjnlhidnkbelaaGreatDoor
open Go Go.RowKit

/-! What was read, and what is left, are the bytes. -/
theorem rdNum_inv {m : Int} {s : Rd} {n : Int} {r : List UInt8} (h : rdNum m s = (n, some r)) : s = some (enc n.toNat ++ r) ∧ 0 ≤ n ∧ n ≤ m ∧ n ≤ (topN : Int) := by
  rcases rdNum_cases m s with h1 | ⟨bs, k, r', rfl, h1, h2, h3, h4⟩
  · rw [h1] at h; cases h
  · rw [h1] at h
    injection h with e1 e2
    injection e2 with e2
    subst e1; subst e2
    exact ⟨by rw [h4, Int.toNat_natCast], by omega, h3, by omega⟩
theorem rdFlag_inv {s : Rd} {b : Bool} {r : List UInt8} (h : rdFlag s = (b, some r)) : s = some (flagB b ++ r) := by
  unfold rdFlag at h
  split at h
  · cases h
  · cases h
  · rename_i c t
    split at h
    · cases h
    · rename_i hc
      injection h with e1 e2
      injection e2 with e2
      subst e1; subst e2
      have h2 : c = 0 ∨ c = 1 := by
        have h3 : c.toNat = 0 ∨ c.toNat = 1 := by omega
        rcases h3 with h3 | h3
        · exact .inl (UInt8.toNat_inj.1 (by simpa using h3))
        · exact .inr (UInt8.toNat_inj.1 (by simpa using h3))
      rcases h2 with rfl | rfl <;> rfl
theorem rdRow_inv {m : Int} {s : Rd} {x r : List UInt8} (h : rdRow m s = (x, some r)) : s = some (rowB x ++ r) ∧ (x.length : Int) ≤ m := by
  rcases rdNum_cases m s with h1 | ⟨bs, k, r', rfl, h1, h2, h3, h4⟩
  · rw [rdRow_none h1] at h; cases h
  · rw [rdRow_some h1] at h
    split at h
    · cases h
    · rename_i hk
      injection h with e1 e2
      injection e2 with e2
      have hl : x.length = k := by rw [← e1, List.length_take]; omega
      refine ⟨?_, by omega⟩
      rw [h4]
      congr 1
      unfold rowB
      rw [hl, List.append_assoc, ← e1, ← e2, List.take_append_drop]
theorem rdNum_no (m : Int) : rdNum m none = (0, none) := rfl
theorem rdFlag_no : rdFlag none = (false, none) := rfl
theorem rdRow_no (m : Int) : rdRow m none = ([], none) := rfl
/-- A state that is there was there ahead. -/
theorem rdNum_was {m : Int} {s : Rd} {r : List UInt8} (h : (rdNum m s).2 = some r) : rdNum m s = ((rdNum m s).1, some r) := by rw [← h]
theorem rdFlag_was {s : Rd} {r : List UInt8} (h : (rdFlag s).2 = some r) : rdFlag s = ((rdFlag s).1, some r) := by rw [← h]
theorem rdRow_was {m : Int} {s : Rd} {r : List UInt8} (h : (rdRow m s).2 = some r) : rdRow m s = ((rdRow m s).1, some r) := by rw [← h]

theorem rdRdg_inv {s : Rd} {r : List UInt8} (h : (rdRdg s).2 = some r) : s = some (rdgB (rdRdg s).1 ++ r) := by
  have h3 := (rdRow_inv (rdRow_was h)).1
  have h2 := rdFlag_inv (rdFlag_was h3)
  have h1 := (rdRow_inv (rdRow_was h2)).1
  refine h1.trans ?_
  unfold rdgB
  simp only [List.append_assoc]
  rfl
theorem rdRdgs_inv {k : Nat} {s : Rd} {r : List UInt8} (h : (rdRdgs k s).2 = some r) : s = some (rdgsB (rdRdgs k s).1 ++ r) := by
  induction k generalizing r with
  | zero =>
    have h0 : s = some r := h
    rw [h0]; rfl
  | succ k ih =>
    have h1 := rdRdg_inv (s := (rdRdgs k s).2) h
    refine (ih h1).trans ?_
    congr 1
    show _ = rdgsB ((rdRdgs k s).1 ++ [(rdRdg (rdRdgs k s).2).1]) ++ r
    unfold rdgsB
    simp
theorem rdRdgsN_inv {s : Rd} {r : List UInt8} (h : (rdRdgsN s).2 = some r) : s = some ((enc (rdRdgsN s).1.length ++ rdgsB (rdRdgsN s).1) ++ r) := by
  have h1 := rdRdgs_inv (k := (rdNum 6 s).1.toNat) (s := (rdNum 6 s).2) h
  have h2 := (rdNum_inv (rdNum_was h1)).1
  refine h2.trans ?_
  congr 1
  have e : (rdRdgsN s).1.length = (rdNum 6 s).1.toNat := rdRdgs_len _ _
  rw [e, List.append_assoc]
  rfl
theorem sgn_eq (less : Bool) (n : Int) (h0 : 0 ≤ n) (hok : (!less || decide (0 < n)) = true) : decide ((if less = true then -n else n) < 0) = less ∧ (if less = true then -n else n).natAbs = n.toNat := by
  cases less with
  | true =>
    simp at hok
    exact ⟨by simp; omega, by simp only [if_true]; omega⟩
  | false => exact ⟨by simp; omega, by simp only [Bool.false_eq_true, if_false]; omega⟩
theorem rdAct_inv {s : Rd} {r : List UInt8} (h : (rdAct s).2 = some r) (hok : (rdAct s).1.2 = true) : s = some (actB (rdAct s).1.1 ++ r) := by
  have h5 := rdNum_inv (rdNum_was (m := 1073741824) (s := (rdFlag (rdRow 20 (rdRow 20 (rdNum 255 s).2).2).2).2) h)
  have h4 := rdFlag_inv (rdFlag_was h5.1)
  have h3 := (rdRow_inv (rdRow_was h4)).1
  have h2 := (rdRow_inv (rdRow_was h3)).1
  have h1 := (rdNum_inv (rdNum_was h2)).1
  refine h1.trans ?_
  congr 1
  obtain ⟨e1, e2⟩ := sgn_eq _ _ h5.2.1 hok
  unfold actB rdAct
  simp only [List.append_assoc]
  rw [e1, e2]
theorem rdActs_len (k : Nat) (s : Rd) : (rdActs k s).1.1.length = k := by
  induction k with
  | zero => rfl
  | succ k ih => simp [rdActs, ih]
theorem rdActs_inv {k : Nat} {s : Rd} {r : List UInt8} (h : (rdActs k s).2 = some r) (hok : (rdActs k s).1.2 = true) : s = some (actsB (rdActs k s).1.1 ++ r) := by
  induction k generalizing r with
  | zero =>
    have h0 : s = some r := h
    rw [h0]; rfl
  | succ k ih =>
    have hok : ((rdActs k s).1.2 && (rdAct (rdActs k s).2).1.2) = true := hok
    rw [Bool.and_eq_true] at hok
    have h1 := rdAct_inv (s := (rdActs k s).2) h hok.2
    refine (ih h1 hok.1).trans ?_
    congr 1
    show _ = actsB ((rdActs k s).1.1 ++ [(rdAct (rdActs k s).2).1.1]) ++ r
    unfold actsB
    simp
theorem rdActsN_inv {s : Rd} {r : List UInt8} (h : (rdActsN s).2 = some r) (hok : (rdActsN s).1.2 = true) : s = some ((enc (rdActsN s).1.1.length ++ actsB (rdActsN s).1.1) ++ r) := by
  have h1 := rdActs_inv (k := (rdNum 6 s).1.toNat) (s := (rdNum 6 s).2) h hok
  have h2 := (rdNum_inv (rdNum_was h1)).1
  refine h2.trans ?_
  congr 1
  have e : (rdActsN s).1.1.length = (rdNum 6 s).1.toNat := rdActs_len _ _
  rw [e, List.append_assoc]
  rfl
/-- Once an act is none, what is read is none. -/
theorem rdActs_bad {k n : Nat} {s : Rd} (h : (rdActs k s).1.2 = false) (hk : k ≤ n) : (rdActs n s).1.2 = false := by
  induction n with
  | zero =>
    obtain rfl : k = 0 := by omega
    exact h
  | succ n ih =>
    rcases Nat.lt_or_ge k (n + 1) with h1 | h1
    · show ((rdActs n s).1.2 && _) = false
      rw [ih (by omega)]; rfl
    · obtain rfl : k = n + 1 := by omega
      exact h
theorem rdEnd_zero {s : Rd} (h : rdEnd s = 0) : s = some [] := by
  cases s with
  | none => simp [rdEnd] at h
  | some bs =>
    unfold rdEnd at h
    simp only at h
    split at h
    · rename_i hb; rw [hb]
    · cases h
theorem encAll4 (a b c d : Int) : encAll [a, b, c, d] = enc a.toNat ++ (enc b.toNat ++ (enc c.toNat ++ enc d.toNat)) := by simp [encAll]
theorem encAll2 (a b : Int) : encAll [a, b] = enc a.toNat ++ enc b.toNat := by simp [encAll]
theorem ordGet_inv {b : List UInt8} {x : OrdF} (h : ordGet b = some x) : ordOk x = true ∧ ordB x = b := by
  unfold ordGet at h
  split at h
  · rename_i hc
    injection h with h
    simp only [Bool.and_eq_true, decide_eq_true_eq] at hc
    obtain ⟨hok, he, hr⟩ := hc
    have h13 := rdEnd_zero he
    have g13 := (rdRow_inv (rdRow_was (m := 65536) h13)).1
    have g12 := (rdRow_inv (rdRow_was g13)).1
    have g11 := (rdRow_inv (rdRow_was g12)).1
    have g10 := (rdNum_inv (rdNum_was g11)).1
    have g9 := (rdNum_inv (rdNum_was g10)).1
    have g8 := (rdNum_inv (rdNum_was g9)).1
    have g7 := rdRdgsN_inv g8
    have g6 := rdFlag_inv (rdFlag_was g7)
    have g5 := rdActsN_inv g6 hok
    have g4 := (rdNum_inv (rdNum_was g5)).1
    have g3 := (rdNum_inv (rdNum_was g4)).1
    have g2 := (rdNum_inv (rdNum_was g3)).1
    have g1 := (rdNum_inv (rdNum_was g2)).1
    injection g1 with g1
    subst h
    refine ⟨hr, ?_⟩
    refine Eq.trans ?_ g1.symm
    unfold ordB
    rw [encAll4, encAll3]
    simp only [List.append_assoc, List.append_nil]
    rfl
  · cases h
theorem ansGet_inv {b : List UInt8} {x : AnsF} (h : ansGet b = some x) : ansOk x = true ∧ ansB x = b := by
  unfold ansGet at h
  split at h
  · rename_i hc
    injection h with h
    simp only [Bool.and_eq_true, decide_eq_true_eq] at hc
    obtain ⟨he, hr⟩ := hc
    have h13 := rdEnd_zero he
    have g9 := (rdRow_inv (rdRow_was (m := 131072) h13)).1
    have g8 := (rdNum_inv (rdNum_was g9)).1
    have g7 := (rdNum_inv (rdNum_was g8)).1
    have g6 := rdRdgsN_inv g7
    have g5 := rdFlag_inv (rdFlag_was g6)
    have g4 := rdFlag_inv (rdFlag_was g5)
    have g3 := (rdNum_inv (rdNum_was g4)).1
    have g2 := (rdNum_inv (rdNum_was g3)).1
    have g1 := (rdNum_inv (rdNum_was g2)).1
    injection g1 with g1
    subst h
    refine ⟨hr, ?_⟩
    refine Eq.trans ?_ g1.symm
    unfold ansB
    rw [encAll3, encAll2]
    simp only [List.append_assoc, List.append_nil]
    rfl
  · cases h
end Go.Proofs.YtkjnlhidnkbelaaGreatDoor
/- Orders and answers in plain Lean: what is right is put, and read as it was. -/
namespace Go.Proofs.YtkjnlhidnkbelaaGreatDoor
open Go Go.RowKit

theorem only_nm (x : OrdF) (l : List Part) (y : OrdF) : (l.foldl (partTo x) y).nm = if Part.name ∈ l then x.nm else y.nm := by
  induction l generalizing y with
  | nil => simp
  | cons p l ih => rw [List.foldl_cons, ih]; cases p <;> simp [partTo]
theorem only_epoch (x : OrdF) (l : List Part) (y : OrdF) : (l.foldl (partTo x) y).epoch = if Part.epoch ∈ l then x.epoch else y.epoch := by
  induction l generalizing y with
  | nil => simp
  | cons p l ih => rw [List.foldl_cons, ih]; cases p <;> simp [partTo]
theorem only_acts (x : OrdF) (l : List Part) (y : OrdF) : (l.foldl (partTo x) y).acts = if Part.acts ∈ l then x.acts else y.acts := by
  induction l generalizing y with
  | nil => simp
  | cons p l ih => rw [List.foldl_cons, ih]; cases p <;> simp [partTo]
theorem only_reads (x : OrdF) (l : List Part) (y : OrdF) : (l.foldl (partTo x) y).reads = if Part.reads ∈ l then x.reads else y.reads := by
  induction l generalizing y with
  | nil => simp
  | cons p l ih => rw [List.foldl_cons, ih]; cases p <;> simp [partTo]
theorem only_scheme (x : OrdF) (l : List Part) (y : OrdF) : (l.foldl (partTo x) y).scheme = if Part.scheme ∈ l then x.scheme else y.scheme := by
  induction l generalizing y with
  | nil => simp
  | cons p l ih => rw [List.foldl_cons, ih]; cases p <;> simp [partTo]
theorem only_stage (x : OrdF) (l : List Part) (y : OrdF) : (l.foldl (partTo x) y).stage = if Part.stage ∈ l then x.stage else y.stage := by
  induction l generalizing y with
  | nil => simp
  | cons p l ih => rw [List.foldl_cons, ih]; cases p <;> simp [partTo]
theorem only_to (x : OrdF) (l : List Part) (y : OrdF) : (l.foldl (partTo x) y).to = if Part.group ∈ l then x.to else y.to := by
  induction l generalizing y with
  | nil => simp
  | cons p l ih => rw [List.foldl_cons, ih]; cases p <;> simp [partTo]
theorem only_lo (x : OrdF) (l : List Part) (y : OrdF) : (l.foldl (partTo x) y).lo = if Part.stretch ∈ l then x.lo else y.lo := by
  induction l generalizing y with
  | nil => simp
  | cons p l ih => rw [List.foldl_cons, ih]; cases p <;> simp [partTo]
theorem only_hi (x : OrdF) (l : List Part) (y : OrdF) : (l.foldl (partTo x) y).hi = if Part.stretch ∈ l then x.hi else y.hi := by
  induction l generalizing y with
  | nil => simp
  | cons p l ih => rw [List.foldl_cons, ih]; cases p <;> simp [partTo]
theorem only_bytes (x : OrdF) (l : List Part) (y : OrdF) : (l.foldl (partTo x) y).bytes = if Part.load ∈ l then x.bytes else y.bytes := by
  induction l generalizing y with
  | nil => simp
  | cons p l ih => rw [List.foldl_cons, ih]; cases p <;> simp [partTo]

/-- What holds of an order's parts where it is right. -/
structure OrdSm (x : OrdF) : Prop where
  kind : 1 ≤ x.kind ∧ x.kind ≤ 13
  nm : (0 ≤ x.nm.1 ∧ x.nm.1 ≤ 1073741824) ∧ 0 ≤ x.nm.2 ∧ x.nm.2 ≤ 1073741824
  epoch : 0 ≤ x.epoch ∧ x.epoch ≤ 1073741824
  acts : x.acts.length ≤ 6 ∧ ∀ a ∈ x.acts, actOk a = true
  reads : x.reads.length ≤ 6 ∧ ∀ a ∈ x.reads, rdgOk a = true
  scheme : 0 ≤ x.scheme ∧ x.scheme ≤ 1073741824
  stage : 0 ≤ x.stage ∧ x.stage ≤ 1073741824
  to : 0 ≤ x.to ∧ x.to ≤ 1073741824
  lo : x.lo.length ≤ 20
  hi : x.hi.length ≤ 20
  bytes : x.bytes.length ≤ 65536
theorem keyOk_len {s : List UInt8} (h : keyOk s = true) : s.length ≤ 20 := by
  unfold keyOk at h
  simp only [Bool.and_eq_true, decide_eq_true_eq] at h
  exact h.1.2
theorem spanOk_len {lo hi : List UInt8} (h : spanOk lo hi = true) : lo.length ≤ 20 ∧ hi.length ≤ 20 := by
  unfold spanOk at h
  simp only [Bool.and_eq_true, Bool.or_eq_true, decide_eq_true_eq] at h
  refine ⟨?_, ?_⟩
  · rcases h.1 with rfl | h1
    · simp
    · exact keyOk_len h1
  · rcases h.2.1 with rfl | h1
    · simp
    · exact keyOk_len h1
theorem rdgsOk_parts {c : Bool} {l : List Rdg} (h : rdgsOk c l = true) : l.length ≤ 6 ∧ ∀ a ∈ l, rdgOk a = true := by
  unfold rdgsOk at h
  simp only [Bool.and_eq_true, decide_eq_true_eq, List.all_eq_true] at h
  exact ⟨h.1, h.2.2⟩
theorem actsOk_parts {l : List ActT} (h : actsOk l = true) : l.length ≤ 6 ∧ ∀ a ∈ l, actOk a = true := by
  unfold actsOk at h
  simp only [Bool.and_eq_true, decide_eq_true_eq, List.all_eq_true] at h
  exact ⟨h.1.2, h.2⟩
theorem ordOk_sm {x : OrdF} (h : ordOk x = true) : OrdSm x := by
  unfold ordOk at h
  simp only [Bool.and_eq_true, decide_eq_true_eq, List.all_eq_true] at h
  obtain ⟨⟨hk, hp⟩, he⟩ := h
  have hk : 1 ≤ x.kind ∧ x.kind ≤ 13 := of_decide_eq_true hk
  generalize partsOf x.kind = l at hp he
  have e1 := only_nm x l (ordZ x.kind)
  have e2 := only_epoch x l (ordZ x.kind)
  have e3 := only_acts x l (ordZ x.kind)
  have e4 := only_reads x l (ordZ x.kind)
  have e5 := only_scheme x l (ordZ x.kind)
  have e6 := only_stage x l (ordZ x.kind)
  have e7 := only_to x l (ordZ x.kind)
  have e8 := only_lo x l (ordZ x.kind)
  have e9 := only_hi x l (ordZ x.kind)
  have e10 := only_bytes x l (ordZ x.kind)
  have he : l.foldl (partTo x) (ordZ x.kind) = x := he.symm
  rw [he] at e1 e2 e3 e4 e5 e6 e7 e8 e9 e10
  refine ⟨hk, ?_, ?_, ?_, ?_, ?_, ?_, ?_, ?_, ?_, ?_⟩
  · by_cases hm : Part.name ∈ l
    · have h : nmOk x.nm := of_decide_eq_true (hp _ hm)
      unfold nmOk at h
      omega
    · rw [e1, if_neg hm]; simp [ordZ]
  · by_cases hm : Part.epoch ∈ l
    · exact of_decide_eq_true (hp _ hm)
    · rw [e2, if_neg hm]; simp [ordZ]
  · by_cases hm : Part.acts ∈ l
    · exact actsOk_parts (hp _ hm)
    · rw [e3, if_neg hm]; simp [ordZ]
  · by_cases hm : Part.reads ∈ l
    · exact rdgsOk_parts (hp _ hm)
    · rw [e4, if_neg hm]; simp [ordZ]
  · by_cases hm : Part.scheme ∈ l
    · have h : 1 ≤ x.scheme ∧ x.scheme ≤ 1073741824 := of_decide_eq_true (hp _ hm)
      omega
    · rw [e5, if_neg hm]; simp [ordZ]
  · by_cases hm : Part.stage ∈ l
    · have h : 0 ≤ x.stage ∧ x.stage ≤ 20 := of_decide_eq_true (hp _ hm)
      omega
    · rw [e6, if_neg hm]; simp [ordZ]
  · by_cases hm : Part.group ∈ l
    · have h : 1 ≤ x.to ∧ x.to ≤ 4 := of_decide_eq_true (hp _ hm)
      omega
    · rw [e7, if_neg hm]; simp [ordZ]
  · by_cases hm : Part.stretch ∈ l
    · exact (spanOk_len (hp _ hm)).1
    · rw [e8, if_neg hm]; simp [ordZ]
  · by_cases hm : Part.stretch ∈ l
    · exact (spanOk_len (hp _ hm)).2
    · rw [e9, if_neg hm]; simp [ordZ]
  · by_cases hm : Part.load ∈ l
    · exact of_decide_eq_true (hp _ hm)
    · rw [e10, if_neg hm]; simp [ordZ]
/-- What holds of an answer's parts where it is right. -/
structure AnsSm (x : AnsF) : Prop where
  err : 0 ≤ x.err ∧ x.err ≤ 99
  nm : (0 ≤ x.nm.1 ∧ x.nm.1 ≤ 1073741824) ∧ 0 ≤ x.nm.2 ∧ x.nm.2 ≤ 1073741824
  reads : x.reads.length ≤ 6 ∧ ∀ a ∈ x.reads, rdgOk a = true
  scheme : 0 ≤ x.scheme ∧ x.scheme ≤ 1073741824
  stage : 0 ≤ x.stage ∧ x.stage ≤ 1073741824
  bytes : x.bytes.length ≤ 131072
theorem ansOk_sm {x : AnsF} (h : ansOk x = true) : AnsSm x := by
  unfold ansOk at h
  simp only [Bool.and_eq_true, Bool.or_eq_true, decide_eq_true_eq] at h
  obtain ⟨h1, h2, h3, h4, h5, h6⟩ := h
  refine ⟨h1, ?_, rdgsOk_parts h3, h4, by omega, h6⟩
  rcases h2 with h2 | h2
  · rw [h2]; exact ⟨⟨by decide, by decide⟩, by decide, by decide⟩
  · unfold nmOk at h2; omega

theorem actOk_sm {a : ActT} (h : actOk a = true) : (1 ≤ a.kind ∧ a.kind ≤ 3) ∧ a.key.length ≤ 20 ∧ a.val.length ≤ 20 ∧ -1073741824 ≤ a.num ∧ a.num ≤ 1073741824 := by
  unfold actOk at h
  rw [Bool.and_eq_true] at h
  obtain ⟨h1, h2⟩ := h
  have hk := keyOk_len h1
  split at h2
  · simp only [Bool.and_eq_true, decide_eq_true_eq] at h2
    rw [h2.1, h2.2]
    refine ⟨by omega, hk, by simp, by omega, by omega⟩
  · split at h2
    · simp only [Bool.and_eq_true, decide_eq_true_eq] at h2
      rw [h2.2]
      exact ⟨by omega, hk, h2.1.1, by omega, by omega⟩
    · split at h2
      · simp only [Bool.and_eq_true, decide_eq_true_eq] at h2
        rw [h2.1]
        exact ⟨by omega, hk, by simp, h2.2.1, h2.2.2⟩
      · cases h2
theorem rdAct_of {a : ActT} (h : actOk a = true) (r : List UInt8) : rdAct (some (actB a ++ r)) = ((a, true), some r) := by
  obtain ⟨⟨k1, k2⟩, hk, hv, n1, n2⟩ := actOk_sm h
  unfold rdAct actB
  simp only [List.append_assoc]
  rw [rdNum_of _ _ _ (by omega) (by unfold topN; omega)]
  simp only
  rw [rdRow_of 20 a.key _ (by omega) (by unfold topN; omega)]
  simp only
  rw [rdRow_of 20 a.val _ (by omega) (by unfold topN; omega)]
  simp only
  rw [rdFlag_of]
  simp only
  rw [rdNum_of _ _ _ (by omega) (by unfold topN; omega)]
  simp only
  obtain ⟨kind, key, val, num⟩ := a
  simp only at k1 k2 n1 n2 ⊢
  have e1 : ((kind.toNat : Nat) : Int) = kind := by omega
  rw [e1]
  by_cases hn : num < 0
  · have e2 : (-((num.natAbs : Nat) : Int)) = num := by omega
    have e3 : 0 < ((num.natAbs : Nat) : Int) := by omega
    simp only [decide_eq_true hn, if_true, e2, decide_eq_true e3, Bool.not_true, Bool.or_true]
  · have e2 : ((num.natAbs : Nat) : Int) = num := by omega
    simp [decide_eq_false hn, e2]
theorem rdActs_of (l : List ActT) (h : ∀ x ∈ l, actOk x = true) (r : List UInt8) (k : Nat) (hk : k ≤ l.length) : rdActs k (some (actsB l ++ r)) = ((l.take k, true), some (actsB (l.drop k) ++ r)) := by
  induction k with
  | zero => rfl
  | succ k ih =>
    have hlt : k < l.length := hk
    have e : actsB (l.drop k) ++ r = actB l[k] ++ (actsB (l.drop (k + 1)) ++ r) := by
      unfold actsB
      rw [List.drop_eq_getElem_cons hlt, List.map_cons, List.flatten_cons, List.append_assoc]
    rw [rdActs, ih (by omega), e]
    simp only
    rw [rdAct_of (h _ (List.getElem_mem hlt)), List.take_succ_eq_append_getElem hlt]
    rfl
theorem rdActsN_of (l : List ActT) (hl : l.length ≤ 6) (h : ∀ x ∈ l, actOk x = true) (r : List UInt8) : rdActsN (some (enc l.length ++ (actsB l ++ r))) = ((l, true), some r) := by
  unfold rdActsN
  rw [rdNum_of _ _ _ (by omega) (by unfold topN; omega)]
  simp only [Int.toNat_natCast]
  rw [rdActs_of l h r _ (Nat.le_refl _), List.take_length, List.drop_length]
  rfl
theorem rdRdgsN_of (l : List Rdg) (hl : l.length ≤ 6) (h : ∀ x ∈ l, rdgOk x = true) (r : List UInt8) : rdRdgsN (some (enc l.length ++ (rdgsB l ++ r))) = (l, some r) := by
  unfold rdRdgsN
  rw [rdNum_of _ _ _ (by omega) (by unfold topN; omega)]
  simp only [Int.toNat_natCast]
  rw [rdRdgs_of l h r _ (Nat.le_refl _), List.take_length, List.drop_length]
  rfl
theorem rdOrd_of {x : OrdF} (h : OrdSm x) (r : List UInt8) : rdOrd (some (ordB x ++ r)) = ((x, true), some r) := by
  obtain ⟨⟨k1, k2⟩, ⟨⟨a1, a2⟩, a3, a4⟩, ⟨e1, e2⟩, ⟨c1, c2⟩, ⟨d1, d2⟩, ⟨s1, s2⟩, ⟨t1, t2⟩, ⟨o1, o2⟩, l1, l2, l3⟩ := h
  unfold rdOrd ordB
  rw [encAll4, encAll3]
  simp only [List.append_assoc]
  rw [rdNum_of _ _ _ (by omega) (by unfold topN; omega)]
  simp only
  rw [rdNum_of _ _ _ (by omega) (by unfold topN; omega)]
  simp only
  rw [rdNum_of _ _ _ (by omega) (by unfold topN; omega)]
  simp only
  rw [rdNum_of _ _ _ (by omega) (by unfold topN; omega)]
  simp only
  rw [rdActsN_of _ c1 c2]
  simp only
  rw [rdFlag_of]
  simp only
  rw [rdRdgsN_of _ d1 d2]
  simp only
  rw [rdNum_of _ _ _ (by omega) (by unfold topN; omega)]
  simp only
  rw [rdNum_of _ _ _ (by omega) (by unfold topN; omega)]
  simp only
  rw [rdNum_of _ _ _ (by omega) (by unfold topN; omega)]
  simp only
  rw [rdRow_of 20 x.lo _ (by omega) (by unfold topN; omega)]
  simp only
  rw [rdRow_of 20 x.hi _ (by omega) (by unfold topN; omega)]
  simp only
  rw [rdRow_of 65536 x.bytes _ (by omega) (by unfold topN; omega)]
  simp only
  obtain ⟨kind, ⟨na, nb⟩, epoch, acts, commit, reads, scheme, stage, to, lo, hi, bytes⟩ := x
  simp only at k1 a1 a3 e1 s1 t1 o1 ⊢
  have z1 : ((kind.toNat : Nat) : Int) = kind := by omega
  have z2 : ((na.toNat : Nat) : Int) = na := by omega
  have z3 : ((nb.toNat : Nat) : Int) = nb := by omega
  have z4 : ((epoch.toNat : Nat) : Int) = epoch := by omega
  have z5 : ((scheme.toNat : Nat) : Int) = scheme := by omega
  have z6 : ((stage.toNat : Nat) : Int) = stage := by omega
  have z7 : ((to.toNat : Nat) : Int) = to := by omega
  rw [z1, z2, z3, z4, z5, z6, z7]
theorem rdAns_of {x : AnsF} (h : AnsSm x) (r : List UInt8) : rdAns (some (ansB x ++ r)) = (x, some r) := by
  obtain ⟨⟨k1, k2⟩, ⟨⟨a1, a2⟩, a3, a4⟩, ⟨d1, d2⟩, ⟨s1, s2⟩, ⟨t1, t2⟩, l3⟩ := h
  unfold rdAns ansB
  rw [encAll3, encAll2]
  simp only [List.append_assoc]
  rw [rdNum_of _ _ _ (by omega) (by unfold topN; omega)]
  simp only
  rw [rdNum_of _ _ _ (by omega) (by unfold topN; omega)]
  simp only
  rw [rdNum_of _ _ _ (by omega) (by unfold topN; omega)]
  simp only
  rw [rdFlag_of]
  simp only
  rw [rdFlag_of]
  simp only
  rw [rdRdgsN_of _ d1 d2]
  simp only
  rw [rdNum_of _ _ _ (by omega) (by unfold topN; omega)]
  simp only
  rw [rdNum_of _ _ _ (by omega) (by unfold topN; omega)]
  simp only
  rw [rdRow_of 131072 x.bytes _ (by omega) (by unfold topN; omega)]
  simp only
  obtain ⟨err, ⟨na, nb⟩, is, commit, reads, scheme, stage, bytes⟩ := x
  simp only at k1 a1 a3 s1 t1 ⊢
  have z1 : ((err.toNat : Nat) : Int) = err := by omega
  have z2 : ((na.toNat : Nat) : Int) = na := by omega
  have z3 : ((nb.toNat : Nat) : Int) = nb := by omega
  have z5 : ((scheme.toNat : Nat) : Int) = scheme := by omega
  have z6 : ((stage.toNat : Nat) : Int) = stage := by omega
  rw [z1, z2, z3, z5, z6]
theorem ordGet_of {x : OrdF} (h : ordOk x = true) : ordGet (ordB x) = some x := by
  have h1 := rdOrd_of (ordOk_sm h) []
  rw [List.append_nil] at h1
  unfold ordGet
  rw [h1]
  simp [rdEnd, h]
theorem ansGet_of {x : AnsF} (h : ansOk x = true) : ansGet (ansB x) = some x := by
  have h1 := rdAns_of (ansOk_sm h) []
  rw [List.append_nil] at h1
  unfold ansGet
  rw [h1]
  simp [rdEnd, h]
/-- One byte less, one more: none. -/
theorem ordGet_less {x : OrdF} (h : ordOk x = true) (b : List UInt8) (c : UInt8) (hb : ordB x = b ++ [c]) : ordGet b = none := by
  cases hg : ordGet b with
  | none => rfl
  | some y =>
    obtain ⟨h1, h2⟩ := ordGet_inv hg
    have g1 := rdOrd_of (ordOk_sm h) []
    have g2 := rdOrd_of (ordOk_sm h1) [c]
    rw [List.append_nil, hb, ← h2, g2] at g1
    simp at g1
theorem ordGet_more {x : OrdF} (h : ordOk x = true) (c : UInt8) : ordGet (ordB x ++ [c]) = none := by
  cases hg : ordGet (ordB x ++ [c]) with
  | none => rfl
  | some y =>
    obtain ⟨h1, h2⟩ := ordGet_inv hg
    have g1 := rdOrd_of (ordOk_sm h) [c]
    have g2 := rdOrd_of (ordOk_sm h1) []
    rw [List.append_nil, h2, g1] at g2
    simp at g2
theorem ansGet_less {x : AnsF} (h : ansOk x = true) (b : List UInt8) (c : UInt8) (hb : ansB x = b ++ [c]) : ansGet b = none := by
  cases hg : ansGet b with
  | none => rfl
  | some y =>
    obtain ⟨h1, h2⟩ := ansGet_inv hg
    have g1 := rdAns_of (ansOk_sm h) []
    have g2 := rdAns_of (ansOk_sm h1) [c]
    rw [List.append_nil, hb, ← h2, g2] at g1
    simp at g1
theorem ansGet_more {x : AnsF} (h : ansOk x = true) (c : UInt8) : ansGet (ansB x ++ [c]) = none := by
  cases hg : ansGet (ansB x ++ [c]) with
  | none => rfl
  | some y =>
    obtain ⟨h1, h2⟩ := ansGet_inv hg
    have g1 := rdAns_of (ansOk_sm h) [c]
    have g2 := rdAns_of (ansOk_sm h1) []
    rw [List.append_nil, h2, g1] at g2
    simp at g2
theorem enc_pos (n : Nat) : 1 ≤ (enc n).length := by
  cases h : enc n with
  | nil => exact (enc_ne n h).elim
  | cons _ _ => simp
theorem ordB_pos (x : OrdF) : 1 ≤ (ordB x).length := by
  have := enc_pos x.kind.toNat
  unfold ordB
  rw [encAll4]
  simp only [List.length_append]
  omega
theorem ansB_pos (x : AnsF) : 1 ≤ (ansB x).length := by
  have := enc_pos x.err.toNat
  unfold ansB
  rw [encAll3]
  simp only [List.length_append]
  omega
end Go.Proofs.YtkjnlhidnkbelaaGreatDoor
